/- The texts Wi1H Wi2 Wi2H Wi3 Wi3H Wi4 Wi4H SoP Hi1 QP Hi1H SR LnP InsP Ef1 Ef1H Ef2 Ef2H Ef3 Ef3H Rd RdH Ef4 Ef4H Ef5 Ef5H Ef6H Hi2 Hi2H Hi3H Hi4 Hi4H Hi5 Hi5H UtP Vw1 Vw1H Rp RpH. -/
import Derived.Test.YtngoddkencoalaaGreatDoorEbu
namespace Pi
open Go Go.Proofs
set_option maxRecDepth 100000
set_option maxHeartbeats 0
theorem E2(a b:ay):PL a b (pL a.1 a.2 b.1 b.2) where
 lt:=by
  simp only[sI,pL,MV,qF,zai]
  (repeat' split)<;>omega
 gt:=by
  simp only[sI,pL,MV,qF,zai]
  (repeat' split)<;>omega
theorem IC(a b:av):NG a b (r3 a.1 a.2.1 a.2.2 b.1 b.2.1 b.2.2) where
 lt:=il a b
 gt:=by
  simp only[mh,r3,pL,MV,qF,zai]
  (repeat' split)<;>omega
theorem jM(s:ay):cw PR 30 (bh s)=true:=by kernel_rfl
theorem IE(o:bc):cw PR 54 (dC o)=true:=by kernel_rfl
theorem fh(g:ak):cw PR 34 (aR g)=true:=by kernel_rfl
theorem Lp(a b:ay):(a.1==b.1&&(a.2==b.2&&true))=(a==b):=by obtain⟨x,y⟩:=a;obtain⟨z,u⟩:=b;rw[zaH];simp
theorem F6(a b:av):(a.1==b.1&&(a.2.1==b.2.1&&true)&&(a.2.2==b.2.2&&true))=(a==b):=by obtain⟨x,y,z⟩:=a;obtain⟨u,v,w⟩:=b;rw[zaH];simp[and_assoc]
theorem lnE(m n:Nat):((m:Int)==(n:Int))=(m==n):=by rw[zaH,zaW,zaW];omega
theorem UH(o:bc):fE o=((plainO o).parent==o.parent&&((plainO o).name==o.name&&((plainO o).dir==o.dir&&((plainO o).after==o.after&&((plainO o).elem==o.elem&&((plainO o).text==o.text&&((plainO o).cp.length==o.cp.length&&(plainO o).elems.length==o.elems.length))))))):=by
 have h0: ∀x:av,(aB==x)=(x==aB):=λx=>by rw[zaH,zaW,zaW];exact eq_comm
 have h1: ∀s:List UInt8,(([]:List UInt8)==s)=(s==[]):=λs=>by rw[zaH,zaW,zaW];exact eq_comm
 have h2:(false==o.dir)= !o.dir:=by cases o.dir<;>rfl
 have h3: ∀n:Nat,((0:Nat)==n)=(n==0):=λn=>by rw[zaH,zaW,zaW];exact eq_comm
 unfold fE mF plainO;by_cases e0:o.kind=0
 ·have g0:(o.kind==0)=true:=by simpa using e0
  have g1:(o.kind==1)=false:=by rw[e0];rfl
  have g2:(o.kind==2)=false:=by rw[e0];rfl
  have g3:(o.kind==3)=false:=by rw[e0];rfl
  have g4:(o.kind==4)=false:=by rw[e0];rfl
  rw[zap e0,g0,g1,g2,g3,g4];simp only[zbE,zat,h0,h1,h3,zco,zaS,zbx,zbu,zb3];rw[zaH];simp only[zab];constructor
  ·rintro⟨⟨a,⟨b,c⟩,d⟩,e⟩;exact⟨b,c,d,a,e⟩
  rintro⟨b,c,d,a,e⟩;exact⟨⟨a,⟨b,c⟩,d⟩,e⟩
 have f0:(o.kind==0)=false:=by simpa using e0
 by_cases e1:o.kind=1
 ·have g1:(o.kind==1)=true:=by simpa using e1
  have g2:(o.kind==2)=false:=by rw[e1];rfl
  have g3:(o.kind==3)=false:=by rw[e1];rfl
  have g4:(o.kind==4)=false:=by rw[e1];rfl
  rw[zan e0,zap e1,f0,g1,g2,g3,g4];simp only[zbE,zat,h0,h1,h2,h3,zco,Bool.or_true,zaS,zbu];rw[zaH];simp only[zab];constructor
  ·rintro⟨⟨⟨a,f⟩,⟨b,c⟩,d⟩,e⟩;exact⟨a,b,c,d,f,e⟩
  rintro⟨a,b,c,d,f,e⟩;exact⟨⟨⟨a,f⟩,⟨b,c⟩,d⟩,e⟩
 have f1:(o.kind==1)=false:=by simpa using e1
 by_cases e2:o.kind=2
 ·have g2:(o.kind==2)=true:=by simpa using e2
  have g3:(o.kind==3)=false:=by rw[e2];rfl
  have g4:(o.kind==4)=false:=by rw[e2];rfl
  rw[zan e0,zan e1,zap e2,f0,f1,g2,g3,g4];simp only[zbE,zat,h0,h1,h2,h3,zco,zaS,zbx,zbu,zb3];rw[zaH];simp only[zab];constructor
  ·rintro⟨⟨⟨⟨a,b⟩,c⟩,⟨d,e⟩,f⟩,g⟩;exact⟨a,b,c,d,e,f,g⟩
  rintro⟨a,b,c,d,e,f,g⟩;exact⟨⟨⟨⟨a,b⟩,c⟩,⟨d,e⟩,f⟩,g⟩
 have g2:(o.kind==2)=false:=by simpa using e2
 by_cases e3:o.kind=3
 ·have g3:(o.kind==3)=true:=by simpa using e3
  have g4:(o.kind==4)=false:=by rw[e3];rfl
  rw[zan e0,zan e1,zan e2,zap e3,f0,f1,g2,g3,g4];simp only[zbE,zat,h0,h1,h2,h3,zco,zaS,zbx,zbu,zb3];rw[zaH];simp only[zab];constructor
  ·rintro⟨⟨⟨⟨a,b⟩,c⟩,f⟩,g⟩;exact⟨a,b,c,f,g⟩
  rintro⟨a,b,c,f,g⟩;exact⟨⟨⟨⟨a,b⟩,c⟩,f⟩,g⟩
 have g3:(o.kind==3)=false:=by simpa using e3
 by_cases e4:o.kind=4
 ·have g4:(o.kind==4)=true:=by simpa using e4
  rw[zan e0,zan e1,zan e2,zan e3,zap e4,f0,f1,g2,g3,g4];simp only[zat,h0,h1,h2,h3,zbE,zco,zbx,zbu,zb3];rw[zaH];simp only[zab];constructor
  ·rintro⟨⟨⟨⟨a,b⟩,c⟩,f⟩,⟨d,e⟩,g⟩;exact⟨a,b,c,d,e,g,f⟩
  rintro⟨a,b,c,d,e,g,f⟩;exact⟨⟨⟨⟨a,b⟩,c⟩,f⟩,⟨d,e⟩,g⟩
 have g4:(o.kind==4)=false:=by simpa using e4
 rw[zan e0,zan e1,zan e2,zan e3,zan e4,f0,f1,g2,g3,g4];simp only[zat,h0,h1,h2,h3,zbu,zb3];rw[zaH];simp only[zab];constructor
 ·rintro⟨⟨⟨⟨⟨a,b⟩,c⟩,f⟩,⟨d,e⟩,g⟩,h⟩;exact⟨a,b,c,d,e,g,f,h⟩
 rintro⟨a,b,c,d,e,g,f,h⟩;exact⟨⟨⟨⟨⟨a,b⟩,c⟩,f⟩,⟨d,e⟩,g⟩,h⟩
theorem Ao{p:Prop}[Decidable p] {A B:Prop}(h1:p)(h2:A):cond (decide p) A B:=ie (zaY h1) h2
section
variable{X:XF}
theorem Lq:FD X 66 An:=qdj.weaken λps R ae h=>by obtain⟨a,b,rfl,rfl,hp⟩:=h;exact⟨_,_,_,_,rfl,rfl,hp _ (E2 a b)⟩
theorem UI:FD X 150 ri:=qaE.weaken λps R ae h=>by obtain⟨a,b,rfl,rfl,hp⟩:=h;exact⟨_,_,_,_,_,_,rfl,rfl,hp _ (IC a b)⟩
theorem PS:FD X 88 ri:=lK.weaken λps R ae h=>by obtain⟨a,b,rfl,rfl,hp⟩:=h;exact⟨_,_,_,_,_,_,rfl,rfl,hp _ (IC a b)⟩
theorem Ap:FD X 14 qJ:=HU.weaken λps R ae h=>by obtain⟨a,b,rfl,rfl,hp⟩:=h;exact⟨_,_,_,_,rfl,rfl,hp _ rfl⟩
theorem qjc:FD X 147 PN:=Pr.weaken λps R ae h=>by obtain⟨x,rfl,rfl,hp⟩:=h;exact⟨_,_,_,rfl,rfl,hp _ rfl⟩
theorem qfO:FD X 151 PN:=sH.weaken λps R ae h=>by obtain⟨x,rfl,rfl,hp⟩:=h;exact⟨_,_,_,rfl,rfl,hp _ rfl⟩
theorem UJ:FD X 82 xu:=FD.mk (H:=[]) (by kernel_rfl) .nil .nil (by
 intro ps R ae hh;obtain⟨s,rfl,rfl,hp⟩:=hh
 (rw[<-qjb];delta Z3 Z4 Z1)
 refine bf (λh1=>bf (λh2=>bf (λh3=>hp _ ?_) λh3=>hp _ ?_) λh2=>hp _ ?_) λh1=>hp _ ?_
 all_goals (simp only[vF];rw[eq_comm];first | (rw[zbL];omega)| (rw[zaP];omega)))
theorem UK:FD X 104 xu:=FD.mk (H:=[]) (by kernel_rfl) .nil .nil (by
 intro ps R ae hh;obtain⟨s,rfl,rfl,hp⟩:=hh
 (rw[<-qfM];delta Z3 Z4 Z1)
 refine bf (λh1=>bf (λh2=>bf (λh3=>hp _ ?_) λh3=>hp _ ?_) λh2=>hp _ ?_) λh1=>hp _ ?_
 all_goals (simp only[vF];rw[eq_comm];first | (rw[zbL];omega)| (rw[zaP];omega)))
theorem E3:FD X 113 sS:=FD.mk (H:=[(147,PN),(66,An)]) (by kernel_rfl) (.cons qjc (.cons Lq .nil)) .nil (by
 intro ps R ae hh;obtain⟨g,k,x,rfl,rfl,hp⟩:=hh
 (rw[<-qbx];delta Zk Zm Zn pX kz kA iO kB kg gY kh iy PO iB Z3 Lm eX e7 Z4u ZW Yk iP iQ nb jy PQ Ln eN eO Zo eY l9 e8)
 refine⟨x,rfl,rfl,λb hb=>aA (λh1=>⟨BT x,g.s,rfl,rfl,λc hc=>bf (λh2=>hp _ ?_) λh2=>aA (λh3=>hp _ ?_) λh3=>hp _ ?_⟩) λh1=>hp _ ?_⟩
 ·rw[cZ,<-hb,h1,hc.lt.1 h2];rfl
 ·have e:BT x=g.s:=by rw[Lp (BT x) g.s] at h3;simpa using h3
  have e2:jP (BT x) g.s=false:=by rw[<-zaQ,<-hc.lt];exact h2
  rw[cZ,<-hb,h1,e2,e];simp
 ·have e:(BT x==g.s)=false:=by rw[<-Lp (BT x) g.s];exact h3
  have e2:jP (BT x) g.s=false:=by rw[<-zaQ,<-hc.lt];exact h2
  rw[cZ,<-hb,h1,e2,e];rfl
 rw[cZ,<-hb,h1];rfl)
theorem UL:FD X 111 EZ:=FD.mk (H:=[(113,sS)]) (by kernel_rfl) (.cons E3 .nil) .nil (by
 intro ps R ae hh;obtain⟨g,k,x,rfl,rfl,hp⟩:=hh
 (rw[<-UE];delta dV A0 eX eY e7 eN eO l9 e8 bP Zk Zm Zn pX kz kA iO kB kg gY kh iy PO iB ZW Z4y)
 refine aA (λh1=>hp _ ?_) λh1=>⟨g,k,x,rfl,rfl,λb hb=>hp _ ?_⟩
 ·rw[mj,<-F6 x aB,h1];rfl
 rw[mj,<-F6 x aB,h1,hb];rfl)
theorem UM:FD X 145 E0:=FD.mk (H:=[]) (by kernel_rfl) .nil .nil (by
 intro ps R ae hh;obtain⟨o,rfl,rfl,hp⟩:=hh
 (rw[<-UG];delta UF Z4L xv xw xx A1 BY A2 BZ B0 yf Z3 vJ Z7 Yr Q5 Z4N A3 A4 A5 A6 A7 vQ vR vS xy)
 refine ig (λh1=> ?_) λh1=>ig (λh2=> ?_) λh2=>ig (λh3=> ?_) λh3=>ig (λh4=> ?_) λh4=>ig (λh5=> ?_) λh5=> ?_
 ·exact hp _ (by rw[plainO,zap h1])
 ·exact hp _ (by rw[plainO,zan h1,zap h2])
 ·exact hp _ (by rw[plainO,zan h1,zan h2,zap h3])
 ·exact hp _ (by rw[plainO,zan h1,zan h2,zan h3,zap h4])
 ·exact hp _ (by rw[plainO,zan h1,zan h2,zan h3,zan h4,zap h5])
 exact hp _ (by rw[plainO,zan h1,zan h2,zan h3,zan h4,zan h5]))
theorem qby:FD X 109 Lo:=FD.mk (H:=[(145,E0)]) (by kernel_rfl) (.cons UM .nil) .nil (by
 intro ps R ae hh;obtain⟨o,rfl,rfl,hp⟩:=hh
 (rw[<-qfN];delta Z3 Z4 Z51 Iy xv xw xx A1 A2 A3 A5 Zo UF BY BZ B0 yf A4 A6 A7 vQ vR vS xy E1 Z4Z)
 refine⟨o,rfl,rfl,λp Ys=> ?_⟩;have key:=UH o;rw[<-Ys] at key;rw[F6,F6,F6];simp only[zaa,lnE];refine aA (λh1=>aA (λh2=>aA (λh3=>aA (λh4=>aA (λh5=>aA (λh6=>aA (λh7=>hp _ ?_) λh7=>hp _ ?_) λh6=>hp _ ?_) λh5=>hp _ ?_) λh4=>hp _ ?_) λh3=>hp _ ?_) λh2=>hp _ ?_) λh1=>hp _ ?_
 all_goals (clear Ys;rw[key];simp only[*,zaS,Bool.false_and]))
def UN:S->K (PX×S):=λst ae=> ∃g k l,st=dtH g k l 0/\l.length<=9223372036854775807/\(lQ l.length (ml g.s l)=false->ae (.ret,⟨45,[(0,.ref 0 0 0),(1,eS l),(4,kM false)],wY g k⟩))/\(lQ l.length (ml g.s l)=true->ae (.exit 0,⟨45,[(0,.ref 0 0 0),(1,eS l)],wY g k⟩))
theorem dW{α:Type}{l:List α}{i:Nat}(h:i<l.length)(d:α):l.getD i d=l[i]:=by simp[zad,h]
theorem UO:LD X 114 2 (ah (aK 114 2) UN):=LD.find (H:=[(82,xu),(66,An)]) (hk:=[]) (by kernel_rfl) (by kernel_rfl) (.cons UJ (.cons Lq .nil)) .nil
 (A:=ak×Int×List ay) (λa k=>dtH a.1 a.2.1 a.2.2 k) (λa=>a.2.2) (λa j _=> !ml a.1.s a.2.2 j) (λa=>a.2.2.length<=9223372036854775807)
 (λa _=>(.ret,⟨45,[(0,.ref 0 0 0),(1,eS a.2.2),(4,kM false)],wY a.1 a.2.1⟩)) (λa=>(.exit 0,⟨45,[(0,.ref 0 0 0),(1,eS a.2.2)],wY a.1 a.2.1⟩)) (λ_ _ h=>by cases h) (λ_ h=>by cases h)
 (by
  rintro⟨g,k,l⟩ i ae hi hC h0 bK ht hn;dsimp only at*
  (rw[<-NI];delta Zk Zm Zn pX kz kA iO kB kg gY kh iy PO iB dq kC rj bP u5 ZA ZQ B1 Za Z9 Zw Z5d Z2 Zc Z5e Z5c Zb ZF iP iQ nb PQ Ln Zt Iz F5 IA Z3 Zv Z5b lX Zo jy Z5i u7 NH Q6)
  have e1:D.nth (l.map bh) i.toNat=bh l[i.toNat]:=ax _ _ _ hi;have d1:=dW hi ((0,0):ay);rw[e1];simp only[dtH,zaa] at hn⊢;refine Ao bK (bm ⟨h0,bK⟩ (aq (jM _) ⟨l[i.toNat],rfl,rfl,λb hb=>aA (λh1=> ?_) λh1=>⟨l[i.toNat],g.s,rfl,rfl,λc hc=>bf (λh2=> ?_) λh2=>bf (λh3=> ?_) λh3=> ?_⟩⟩))
  ·refine ht ?_;rw[ml,d1,<-hb,show b=false by simpa using h1];rfl
  ·refine ht ?_;rw[ml,d1,hc.gt.1 h2];simp
  ·have e2:D.nth (l.map bh) (i-1).toNat=bh (l[(i-1).toNat]'(by omega)):=ax _ _ _ (by omega);have d2:=dW (show(i-1).toNat<l.length by omega) ((0,0):ay);rw[e2];have e3:jP g.s l[i.toNat]=false:=by rw[<-zaQ,<-hc.gt];exact h2
   refine bm (by omega) (bm ⟨by omega,by omega⟩ (aq (jM _) ⟨l[(i-1).toNat],l[i.toNat],rfl,rfl,λc' rU=>bf (λh4=>ht ?_) λh4=>bm (by omega) (hn ?_)⟩))
   ·have e4:jP l[(i-1).toNat] l[i.toNat]=false:=by rw[<-zaQ,<-rU.lt];omega
    rw[ml,d1,show i.toNat-1=(i-1).toNat by omega,d2,e4,show(i.toNat==0)=false by simp;omega];simp
   have e4:jP l[(i-1).toNat] l[i.toNat]=true:=by rw[<-rU.lt];omega
   rw[ml,d1,show i.toNat-1=(i-1).toNat by omega,d2,e3,e4,<-hb,show b=true by simpa using h1];simp
  have e3:jP g.s l[i.toNat]=false:=by rw[<-zaQ,<-hc.gt];exact h2
  refine bm (by omega) (hn ?_);rw[ml,d1,e3,<-hb,show b=true by simpa using h1,show(i.toNat==0)=true by simp;omega];simp)
 (by
  rintro⟨g,k,l⟩ i ae hC hi hp;dsimp only at*
  (rw[<-NI];delta Zk Zm Zn pX kz kA iO kB kg gY kh iy PO iB dq kC rj bP u5 ZA ZQ B1 Za Z9 Zw Z5d Z2 Zc Z5e Z5c Zb ZF iP iQ nb PQ Ln Zt Iz F5 IA Z3 Zv Z5b lX Zo jy Z5i u7 NH Q6)
  simp only[zaa];exact bf (λh=>by omega) λh=>hp)
 (by rintro s ae ⟨g,k,l,rfl,hl,h1,h2⟩;refine⟨(g,k,l),rfl,hl,λi hi h0 ht _=>h1 (EL (i:=i.toNat) hi (by simpa using ht)),λh=>h2 (vL λi hi=>by simpa using h i hi)⟩)
def Lr:S->K (PX×S):=λst ae=> ∃g k l,st=elH g k l 0/\l.length<=9223372036854775807/\(lQ l.length (C5 g.s k l)=false->ae (.ret,⟨41,[(0,.ref 0 0 0),(1,cI l),(4,kM false)],wY g k⟩))/\(lQ l.length (C5 g.s k l)=true->ae (.exit 0,⟨41,[(0,.ref 0 0 0),(1,cI l)],wY g k⟩))
theorem PT:LD X 116 2 (ah (aK 116 2) Lr):=LD.find (H:=[(113,sS),(150,ri)]) (hk:=[]) (by kernel_rfl) (by kernel_rfl) (.cons E3 (.cons UI .nil)) .nil
 (A:=ak×Int×List av) (λa k=>elH a.1 a.2.1 a.2.2 k) (λa=>a.2.2) (λa j _=> !C5 a.1.s a.2.1 a.2.2 j) (λa=>a.2.2.length<=9223372036854775807)
 (λa _=>(.ret,⟨41,[(0,.ref 0 0 0),(1,cI a.2.2),(4,kM false)],wY a.1 a.2.1⟩)) (λa=>(.exit 0,⟨41,[(0,.ref 0 0 0),(1,cI a.2.2)],wY a.1 a.2.1⟩)) (λ_ _ h=>by cases h) (λ_ h=>by cases h)
 (by
  rintro⟨g,k,l⟩ i ae hi hC h0 bK ht hn;dsimp only at*
  (rw[<-IB];delta Zk Zm Zn pX kz kA iO kB kg gY kh iy PO iB ZA ZQ fg oi wW gJ oo bP u5 Za Z9 Zw Z5k Z2 Zo eX eY e7 eN eO l9 Zt FT FU FV Q7 Zc Z5l Z5n Q8 Zb ZF Z3 Zv lX A0 e8 vN Jz QU)
  have e1:D.nth (l.map bV) i.toNat=bV l[i.toNat]:=ax _ _ _ hi;have d1:=dW hi aB;rw[e1];simp only[elH,zaa] at hn⊢;refine Ao bK (bm ⟨h0,bK⟩ (aq (mg _) ⟨g,k,l[i.toNat],rfl,rfl,λb hb=>aA (λh1=> ?_) λh1=>bf (λh3=> ?_) λh3=> ?_⟩))
  ·refine ht ?_;rw[C5,d1,<-hb,show b=false by simpa using h1];rfl
  ·have e2:D.nth (l.map bV) (i-1).toNat=bV (l[(i-1).toNat]'(by omega)):=ax _ _ _ (by omega);have d2:=dW (show(i-1).toNat<l.length by omega) aB;rw[e2];refine bm (by omega) (bm ⟨by omega,by omega⟩ (aq (mg _) ⟨l[(i-1).toNat],l[i.toNat],rfl,rfl,λc' rU=>bf (λh4=>ht ?_) λh4=>bm (by omega) (hn ?_)⟩))
   ·have e4:mh l[(i-1).toNat] l[i.toNat]=false:=by rw[<-zaQ,<-rU.lt];omega
    rw[C5,d1,show i.toNat-1=(i-1).toNat by omega,d2,e4,show(i.toNat==0)=false by simp;omega];simp
   have e4:mh l[(i-1).toNat] l[i.toNat]=true:=by rw[<-rU.lt];omega
   rw[C5,d1,show i.toNat-1=(i-1).toNat by omega,d2,e4,<-hb,show b=true by simpa using h1];simp
  refine bm (by omega) (hn ?_);rw[C5,d1,<-hb,show b=true by simpa using h1,show(i.toNat==0)=true by simp;omega];simp)
 (by
  rintro⟨g,k,l⟩ i ae hC hi hp;dsimp only at*
  (rw[<-IB];delta Zk Zm Zn pX kz kA iO kB kg gY kh iy PO iB ZA ZQ fg oi wW gJ oo bP u5 Za Z9 Zw Z5k Z2 Zo eX eY e7 eN eO l9 Zt FT FU FV Q7 Zc Z5l Z5n Q8 Zb ZF Z3 Zv lX A0 e8 vN Jz QU)
  simp only[zaa];exact bf (λh=>by omega) λh=>hp)
 (by rintro s ae ⟨g,k,l,rfl,hl,h1,h2⟩;refine⟨(g,k,l),rfl,hl,λi hi h0 ht _=>h1 (EL (i:=i.toNat) hi (by simpa using ht)),λh=>h2 (vL λi hi=>by simpa using h i hi)⟩)
end
def dv(au:List ay):Nat:=List.length au
def Yt:List (Nat×P):=[(9,P.d Z7)]
def Z5p(au:List ay)(bq:ak)(bX:Int):S:=S.mk 45 (u5::rj au::(7,kC au)::(8,P.d (D.int .i64 (B1 au)))::Yt) (iB bq bX)
theorem qfP(g:ak)(k:Int)(l:List ay)(ae:P×List (Nat×En)->Prop):(∃(bq:ak) (bX:Int) (au:List ay),Z5p l g k=Z5p au bq bX/\dv au<=ZJ/\(lQ (dv au) (ml (ak.s bq) au)=false->Lm ae bq bX)/\(lQ (dv au) (ml (ak.s bq) au)=true->ae (P.d (D.bool (decide (B1 au<=(200:Int)))),iB bq bX)))=(aJ [] [(2,ah (aK 114 2) UN)] 114 [.ref 0 0 0,eS l] (wY g k)) ae:=by kernel_rfl
def Z5r(au:List av)(bq:ak)(bX:Int):S:=S.mk 41 (u5::oo au::(7,gJ au)::(8,P.d (D.int .i64 (wW au)))::Yt) (iB bq bX)
theorem qbz(g:ak)(k:Int)(l:List av)(ae:P×List (Nat×En)->Prop):(∃(bq:ak) (bX:Int) (au:List av),Z5r l g k=Z5r au bq bX/\fF au<=ZJ/\(lQ (fF au) (C5 (ak.s bq) bX au)=false->Lm ae bq bX)/\(lQ (fF au) (C5 (ak.s bq) bX au)=true->bif decide (wW au>=(1:Int)) then ae (P.d (D.bool (decide (wW au<=(2000:Int)))),iB bq bX) else Lm ae bq bX))=(aJ [] [(2,ah (aK 116 2) Lr)] 116 [.ref 0 0 0,cI l] (wY g k)) ae:=by kernel_rfl
def Ls:bg:=λps R ae=> ∃g k l,ps=[.ref 0 0 0,eS l]/\R=wY g k/\l.length<=9223372036854775807/\ ∀b,b=nO g.s l->ae (kM b,wY g k)
def E4:bg:=λps R ae=> ∃g k l,ps=[.ref 0 0 0,cI l]/\R=wY g k/\l.length<=9223372036854775807/\ ∀b,b=uj g.s k l->ae (kM b,wY g k)
def vT:bg:=λps R ae=> ∃s,ps=[sD s]/\R=[]/\ ∀b,b=dO s->ae (kM b,[])
def UP(o:bc):List P:=[P.d (D.sl 3 (List.map bV (bc.elems o)))]
def Z5C(g:ak)(k:Int)(n:Int):List (Nat×En):=[(0,En.mk 0 (some 0) (Obj.box (149:TypeId) [P.d (iy g),P.d (gY g),P.d (kB g),P.d (iO g),P.d (kA g),P.d (kz g),pX g,P.d (D.int .i64 (k+n))]))]
def Z5B(k:Int)(n:Int):Bool:=decide (Z9<=k+n/\k+n<=Za)
def Z5D(k:Int)(n:Int)(ae:P×List (Nat×En)->Prop)(g:ak):Prop:=ob (Z5B k n) (ae (P.d Z3,Z5C g k n))
def Z5z(k:Int)(ae:P×List (Nat×En)->Prop)(g:ak):Prop:=ob (decide (Z9<=k+(0:Int)/\k+(0:Int)<=Za)) (ae (P.d Z3,[(0,En.mk 0 (some 0) (Obj.box (149:TypeId) [P.d (iy g),P.d (gY g),P.d (kB g),P.d (iO g),P.d (kA g),P.d (kz g),pX g,P.d (D.int .i64 (k+(0:Int)))]))]))
def Z5y(o:bc)(g:ak)(k:Int):Bool:=xx o==kh g&&(xw o==kg g&&true)&&(xv o==k&&true)
def Z5A(o:bc):P:=P.d (D.agg [B0 o,BZ o,BY o])
def Z5w(o:bc):P:=P.d (D.agg [vS o,vR o,vQ o])
def Z5x(o:bc):List P:=[bP,Z5w o]
def Z5t(bq:ak)(bX:Int):List (Nat×En):=[(0,En.mk 0 (some 0) (Obj.box (149:TypeId) [P.d (iy bq),P.d (gY bq),P.d (kB bq),P.d (iO bq),P.d (kA bq),P.d (kz bq),pX bq,P.d (ZA bX)]))]
def Z5u(o:bc):List P:=[P.d (D.str (bc.name o))]
def Z5v(o:bc):P:=P.d (D.agg [A7 o,A6 o,A4 o])
def Z5s(o:bc)(g:ak)(k:Int):Bool:=Prod.fst (bc.node o)==kh g&&(Prod.fst (Prod.snd (bc.node o))==kg g&&true)&&(Prod.snd (Prod.snd (bc.node o))==k&&true)
theorem qjd(g:ak)(k:Int)(o:bc)(ae:P×List (Nat×En)->Prop):(∃(aU:bc),Z4Z o=Z4Z aU/\Zo/\ ∀(b:Bool),b=fE aU->bif lX b then Lm ae g k else bif bc.kind o==(0:Int) then bif Z5s o g k then∃(bq:ak) (bX:Int) (x:av),[bP,Z5v o]=bP::e8 x/\iB g k=iB bq bX/\ ∀(b:Bool),b=mj (ak.s bq) bX x->bif b then∃(s:List UInt8),Z5u o=ug s/\Zo/\ ∀(b:Bool),b=dO s->ob (Zw bX) (ae (dV b,Z5t bq bX)) else ob (Zw bX) (ae (P.d Z3,Z5t bq bX)) else ob (Zw k) (ae (P.d Z3,Z5t g k)) else bif bc.kind o==(1:Int) then∃(bq:ak) (bX:Int) (x:av),Z5x o=bP::e8 x/\iB g k=iB bq bX/\ ∀(b:Bool),A0 b bq bX x->bif b then∃(g:ak) (k:Int) (x:av),[bP,Z5v o]=bP::e8 x/\iB bq bX=iB g k/\ ∀(b:Bool),b=mj (ak.s g) k x->bif b then∃(s:List UInt8),Z5u o=ug s/\Zo/\ ∀(b:Bool),b=dO s->ae (dV b,iB g k) else Lm ae g k else Lm ae bq bX else bif bc.kind o==(2:Int) then∃(bq:ak) (bX:Int) (x:av),Z5x o=bP::e8 x/\iB g k=iB bq bX/\ ∀(b:Bool),A0 b bq bX x->bif b then∃(g:ak) (k:Int) (l:List ay),[bP,P.d (yf o)]=[bP,kC l]/\iB bq bX=iB g k/\dv l<=ZJ/\ ∀(b:Bool),b=nO (ak.s g) l->ae (dV b,iB g k) else Lm ae bq bX else bif bc.kind o==(3:Int) then∃(s:List UInt8),[P.d (D.str (bc.text o))]=ug s/\Zo/\JF s/\(UC s-> ∃(bq:ak) (bX:Int) (x:av),Z5x o=bP::e8 x/\iB g k=iB bq bX/\ ∀(b:Bool),A0 b bq bX x->bif b then∃(g:ak) (k:Int) (x:av),[bP,Z5A o]=bP::e8 x/\iB bq bX=iB g k/\ ∀(b:Bool),b=mj (ak.s g) k x->bif b then bif Z5y o g k then Z5z k ae g else Z5z k ae g else Z5z k ae g else Z5z bX ae bq)/\(UB s-> ∀(n:Int),n=BU s-> ∃(bq:ak) (bX:Int) (x:av),Z5x o=bP::e8 x/\iB g k=iB bq bX/\ ∀(b:Bool),A0 b bq bX x->bif b then∃(g:ak) (k:Int) (x:av),[bP,Z5A o]=bP::e8 x/\iB bq bX=iB g k/\ ∀(b:Bool),b=mj (ak.s g) k x->bif b then bif Z5y o g k then bif Z0 n then ob (Z5B k n) (ae (P.d (D.bool (decide (n<=(2000:Int)))),Z5C g k n)) else Z5D k n ae g else Z5D k n ae g else Z5D k n ae g else Z5D bX n ae bq) else bif bc.kind o==(4:Int) then∃(bq:ak) (bX:Int) (x:av),Z5x o=bP::e8 x/\iB g k=iB bq bX/\ ∀(b:Bool),A0 b bq bX x->bif b then∃(g:ak) (k:Int) (l:List av),bP::UP o=[bP,gJ l]/\iB bq bX=iB g k/\fF l<=ZJ/\ ∀(b:Bool),b=uj (ak.s g) k l->ae (dV b,iB g k) else Lm ae bq bX else Lm ae g k)=(aJ [(109,Lo),(113,sS),(111,EZ),(112,vT),(114,Ls),(116,E4),(115,Df)] [] 83 [.ref 0 0 0,.d (dC o)] (wY g k)) ae:=by kernel_rfl
def SmO(o:bc):Prop:=o.text.length<=2000000/\o.cp.length<=9223372036854775807/\o.elems.length<=9223372036854775807
def kOk(k:Int):Prop:=0<=k/\k<=1000000000000
def qfQ:bg:=λps R ae=> ∃g k o,ps=[.ref 0 0 0,.d (dC o)]/\R=wY g k/\(SmO o/\kOk k)/\(kN g.s k o=none-> ∀k',ae (kM false,wY g k'))/\(∀n k',kN g.s k o=some n->k'=k+n->ae (kM true,wY g k'))
def Q9(g:ak):Prop:=(∀o∈g.ops,SmO o)/\g.ops.length<=9223372036854775807/\g.deps.length<=1000000
def Dg:bg:=λps R ae=> ∃v,ps=[vD v]/\R=[]/\v.length<=1000000/\ ∀b,b=cO v->ae (kM b,[])
def IF:bg:=λps R ae=> ∃v r,ps=[vD v,iD r]/\R=[]/\v.length<=1000000/\ ∀n,n=eK v r->ae (iD n,[])
def Z5G(g:ak):Bool:=decide (Z9<=ak.n g-(1:Int)/\ak.n g-(1:Int)<=Za)
def Z5H(g:ak):List P:=[P.d (iO g),P.d (gY g)]
def JH(v:List Int):Prop:=List.length v<=1000000
theorem qbA(g:ak)(ae:P×List (Nat×En)->Prop):(∃(s:ay),Ln g=jy s/\Zo/\ ∀(b:Bool),b=EK s->bif b then bif decide (ak.n g>=(1:Int)) then bif decide (ak.n g<=Z1) then∃(v:List Int),[P.d (iO g)]=wT v/\Zo/\JH v/\ ∀(b:Bool),b=cO v->bif b then∃(v:List Int) (r:Int),Z5H g=Zx v::Zn r/\Zo/\JH v/\ ∀(n:Int),n=eK v r->ob (Z5G g) (ae (P.d (D.bool (n==ak.n g-(1:Int))),[])) else Z4 ae else Z4 ae else Z4 ae else Z4 ae)=(aJ [(82,xu),(108,Dg),(31,IF)] [] 81 [.d (aR g)] []) ae:=by kernel_rfl
def Lt:bg:=λps R ae=> ∃g,ps=[.d (aR g)]/\R=[]/\Q9 g/\ ∀b,b=TE g->ae (kM b,[])
abbrev qls(g:ak)(k:Int):List (Nat×En):=[(0,⟨0,none,ckB g k⟩)]
abbrev wcH(g:ak)(k i:Int):S:=⟨59,[(3,.ref 0 0 0),(48,qfL g.ops),(49,iD ((g.ops.map dC).length:Int)),(50,iD i)],qls g k⟩
def xA(g:ak):Int:=(↑(List.length (List.map dC (ak.ops g))):Int)
def Z5N:List (Nat×P):=[(2,P.d (D.int .i64 (80:Int)))]
def jT(g:ak)(i:Int):D:=D.nth (List.map dC (ak.ops g)) (Zt i)
def Z5T(g:ak)(i:Int):D:=D.int .i64 (D.aj (D.ar (jT g i) 6))
def Z5S(g:ak)(i:Int):D:=D.int .i64 (D.aj (D.ar (jT g i) 5))
def Z5R(g:ak)(i:Int):D:=D.int .i64 (D.aj (D.ar (jT g i) 4))
def UQ(g:ak)(i:Int):D:=D.int .i64 (D.aj (D.ar (jT g i) 3))
def UR(g:ak)(i:Int):D:=D.int .i64 (D.aj (D.ar (jT g i) 2))
def US(g:ak)(i:Int):D:=D.int .i64 (D.aj (D.ar (jT g i) 1))
def Z5U(g:ak)(i:Int):P:=P.d (D.agg [D.int .i64 (D.aj (D.ar (jT g i) 0)),US g i,UR g i,UQ g i,Z5R g i,Z5S g i,Z5T g i,D.str (D.cK (D.ar (jT g i) 7)),D.bool (D.eG (D.ar (jT g i) 8)),D.sl 2 (D.dS (D.ar (jT g i) 9)),D.int .i64 (D.aj (D.ar (jT g i) 10)),D.int .i64 (D.aj (D.ar (jT g i) 11)),D.int .i64 (D.aj (D.ar (jT g i) 12)),D.int .i64 (D.aj (D.ar (jT g i) 13)),D.int .i64 (D.aj (D.ar (jT g i) 14)),D.int .i64 (D.aj (D.ar (jT g i) 15)),D.str (D.cK (D.ar (jT g i) 16)),D.sl 3 (D.dS (D.ar (jT g i) 17))])
noncomputable def Ra(g:ak)(i:Int):Bool:=cw PR (54:TypeId) (jT g i)
def Rb(i:Int)(g:ak):Bool:=decide ((0:Int)<=i/\i<xA g)
def UT(i:Int)(g:ak):Bool:=decide (i<xA g)
theorem UU(g:ak)(k i:Int)(ae:PX×S->Prop):(bif UT i g then ob (Rb i g) (ob (Ra g i) (∃(bq:ak) (bX:Int) (o:bc),[bP,Z5U g i]=bP::Z4Z o/\iB g k=iB bq bX/\(SmO o/\kOk bX)/\(kN (ak.s bq) bX o=none-> ∀(_:Int),ae (PX.ret,S.mk 59 Z5N []))/\ ∀(n k':Int),kN (ak.s bq) bX o=some n->k'=bX+n->ob (Zw i) (ae (PX.normal,S.mk 59 [cE,(48,pX g),(49,P.d (D.int .i64 (xA g))),(50,P.d (ZA i))] [(0,En.mk 0 none (PO bq k'))])))) else ae (PX.exit 1,S.mk 59 [] []))=(aD [(83,qfQ)] [] 51 11 (wcH g k i)) ae:=by kernel_rfl
def qfR:S->K (PX×S):=λst ae=> ∃g,st=wcH g 0 0/\(Q9 g/\g.ops.length<=200)/\(jg g.s 0 g.ops=false->ae (.ret,⟨59,[(2,iD 80)],[]⟩))/\(jg g.s 0 g.ops=true->ae (.exit 1,⟨59,[],[]⟩))
def E5(ae:P×List (Nat×En)->Prop):Prop:=ae (P.d (D.int .i64 (80:Int)),[])
def Z63(pY:ak):Prop:=List.length (ak.ops pY)<=200
def Z64(pY:ak)(ae:P×List (Nat×En)->Prop):Prop:=(Q9 pY/\Z63 pY)/\(jg (ak.s pY) (0:Int) (ak.ops pY)=false->E5 ae)/\(jg (ak.s pY) (0:Int) (ak.ops pY)=true->Z8 ae)
def Z62(pY:ak):S:=S.mk 59 [cE,(48,pX pY),(49,P.d (D.int .i64 (xA pY))),(50,P.d Z7)] [(0,En.mk 0 none (Obj.box (149:TypeId) (P.d (iy pY)::P.d (gY pY)::P.d (kB pY)::P.d (iO pY)::P.d (kA pY)::P.d (kz pY)::pX pY::rA)))]
def Z5Z(g:ak):Bool:=decide (xA g>(0:Int))
def Z60(g:ak):List P:=P.d (D.agg [kA g,kz g])::Ln g
def Z61(g:ak):List P:=[P.d (D.agg [kA g,kz g])]
def Z5Y(g:ak):Bool:= !(Prod.fst (ak.bs g)==(0:Int)&&(Prod.snd (ak.bs g)==(0:Int)&&true))
def jz(bq:ak):P:=P.d (D.agg [iy bq,gY bq,kB bq,iO bq,kA bq,kz bq,D.sl 18 (List.map dC (ak.ops bq))])
theorem qje(g:ak)(ae:P×List (Nat×En)->Prop):(∃(bq:ak),[jz g]=[jz bq]/\Zo/\Q9 bq/\ ∀(b:Bool),b=TE bq->bif lX b then E5 ae else bif Z5Y g then∃(s:ay),Z61 g=jy s/\Zo/\ ∀(b:Bool),b=EK s->bif lX b then E5 ae else∃(a:ay) (b:ay),Z60 g=nb a::jy b/\Zo/\ ∀(c:Int),PL a b c->bif Z2 c then E5 ae else bif Z5Z g then E5 ae else Z8 ae else bif decide (xA g<(1:Int)) then E5 ae else bif decide (xA g>(200:Int)) then E5 ae else∃(pY:ak),Z62 g=Z62 pY/\Z64 pY ae)=(aJ [(81,Lt),(82,xu),(66,An)] [(11,ah (aK 51 11) qfR)] 51 [.d (aR g)] []) ae:=by kernel_rfl
def IG:bg:=λps R ae=> ∃g,ps=[.d (aR g)]/\R=[]/\Q9 g/\ ∀e,e=(if cy g=true then 0 else 80)->ae (iD e,[])
section
variable{X:XF}
theorem qbB:FD X 114 Ls:=FD.mk (H:=[]) (hk:=[(2,ah (aK 114 2) UN)]) (by kernel_rfl) .nil (.cons UO .nil) (by
 intro ps R ae hh;obtain⟨g,k,l,rfl,rfl,hl,hp⟩:=hh
 (rw[<-qfP];delta Zk Zm Zn pX kz kA iO kB kg gY kh iy PO iB dq B1 Z3 Lm ZJ dv Z7 Yt kC rj bP u5 Z5p)
 refine⟨g,k,l,rfl,hl,λh=>hp _ ?_,λh=>hp _ ?_⟩
 ·rw[nO,h];rfl
 rw[nO,h,zaa,zaS,zbL];omega)
theorem UW:FD X 116 E4:=FD.mk (H:=[]) (hk:=[(2,ah (aK 116 2) Lr)]) (by kernel_rfl) .nil (.cons PT .nil) (by
 intro ps R ae hh;obtain⟨g,k,l,rfl,rfl,hl,hp⟩:=hh
 (rw[<-qbz];delta Zk Zm Zn pX kz kA iO kB kg gY kh iy PO iB fg oi wW Z3 Lm ZJ fF Z7 Yt gJ oo bP u5 Z5r)
 simp only[zaa];refine⟨g,k,l,by simp only[],hl,λh=>hp _ ?_,λh=>bf (λh2=>hp _ ?_) λh2=>hp _ ?_⟩
 ·rw[uj,h];rfl
 ·rw[uj,h,zaS,zbL];omega
 rw[uj,h,zaS];exact(zaO (by omega)).symm)
theorem qbC:FD X 112 vT:=qfa.weaken λps R ae h=>by obtain⟨s,rfl,rfl,hp⟩:=h;exact⟨s,rfl,rfl,hp _ rfl⟩
theorem UX:FD X 138 vT:=EJ.weaken λps R ae h=>by obtain⟨s,rfl,rfl,hp⟩:=h;exact⟨s,rfl,rfl,hp _ rfl⟩
theorem qfS:FD X 108 Dg:=qiK.weaken λps R ae h=>by obtain⟨s,rfl,rfl,hs,hp⟩:=h;exact⟨s,rfl,rfl,hs,hp _ rfl⟩
theorem qfT:FD X 105 Dg:=qiL.weaken λps R ae h=>by obtain⟨s,rfl,rfl,hs,hp⟩:=h;exact⟨s,rfl,rfl,hs,hp _ rfl⟩
theorem qds:FD X 31 IF:=qlc.weaken λps R ae h=>by obtain⟨s,r,rfl,rfl,hs,hp⟩:=h;exact⟨s,r,rfl,rfl,by omega,hp _ rfl⟩
theorem qfU:FD X 13 IF:=HS.weaken λps R ae h=>by obtain⟨s,r,rfl,rfl,hs,hp⟩:=h;exact⟨s,r,rfl,rfl,by omega,hp _ rfl⟩
theorem qbD:FD X 81 Lt:=FD.mk (H:=[(82,xu),(108,Dg),(31,IF)]) (by kernel_rfl) (.cons UJ (.cons qfS (.cons qds .nil))) .nil (by
 intro ps R ae hh;obtain⟨g,rfl,rfl,hs,hp⟩:=hh
 (rw[<-qbA];delta Z3 Z4 Za Z9 Z5G Zk Zm Zn Zx kg gY iO Z5H JH wT Z1 Zo iP iQ nb jy kh iy PQ Ln)
 have key: ∀b,b=(EK g.s&&(decide (g.n>=1)&&(decide (g.n<=1099511627776)&&(cO g.deps&&(eK g.deps g.s.2==g.n-1)))))->b=TE g:=λb hb=>by
  rw[hb,TE];rw[zaH];simp only[zab,zai];constructor
  ·rintro⟨a,b,c,d,e⟩;exact⟨⟨⟨a,b,c⟩,d⟩,e⟩
  rintro⟨⟨⟨a,b,c⟩,d⟩,e⟩;exact⟨a,b,c,d,e⟩
 refine⟨g.s,rfl,rfl,λb hb=>aA (λh1=>bf (λh2=>bf (λh3=>⟨g.deps,rfl,rfl,hs.2.2,λc hc=>aA (λh4=>⟨g.deps,g.s.2,rfl,rfl,hs.2.2,λn hn=>bm (by omega) (hp _ (key _ ?_))⟩) λh4=>hp _ (key _ ?_)⟩) λh3=>hp _ (key _ ?_)) λh2=>hp _ (key _ ?_)) λh1=>hp _ (key _ ?_)⟩
 ·rw[<-hb,h1,zaY h2,zaY h3,<-hc,h4,<-hn];rfl
 ·rw[<-hb,h1,zaY h2,zaY h3,<-hc,h4];rfl
 ·rw[<-hb,h1,zaY h2,zaO h3];rfl
 ·rw[<-hb,h1,zaO h2];rfl
 rw[<-hb,h1];rfl)
theorem UY{s:ay}{k n:Int}{o:bc}(h:kN s k o=some n)(ho:o.text.length<=2000000):0<=n/\n<=2000000:=by
 have h1:=Al o.text;have h2:=EY o.text;unfold kN at h
 (repeat' split at h)<;>simp at h<;>omega
theorem qjf:FD X 83 qfQ:=FD.mk (H:=[(109,Lo),(113,sS),(111,EZ),(112,vT),(114,Ls),(116,E4),(115,Df)]) (by kernel_rfl)
  (.cons qby (.cons E3 (.cons UL (.cons qbC (.cons qbB (.cons UW (.cons qfK .nil))))))) .nil (by
 intro ps R ae hh;obtain⟨g,k,o,rfl,rfl,⟨hs,hk⟩,h1,h2⟩:=hh;have ft:0<=k/\k<=1000000000000:=hk
 (rw[<-qjd];delta fF fg gJ UP pX kz kA iO kB kg gY kh iy Z5C Z3 Za Z9 Z5B Z5D Z0 UB Z5z xv xw xx Z5y A1 BY A2 BZ B0 Z5A UC q9 JF ZJ dv dq kC yf A0 vQ vR vS Z5w bP Z5x ZA Z5t dV Zw ug Z5u Zk Zm Zn PO iB eX eY e7 eN eO l9 e8 A3 A4 A5 A6 A7 Z5v Z5s Lm lX Zo UF xy E1 Z4Z)
 refine⟨o,rfl,rfl,λb hb=>aA (λh0=>h1 ?_ k) λh0=> ?_⟩
 ·have:fE o=false:=by rw[<-hb];simpa using h0
  rw[kN,zap this]
 have A8:fE o=true:=by rw[<-hb];simpa using h0
 have u:kN g.s k o=_:=kN.eq_1 g.s k o;rw[zan (by rw[A8];simp)] at u;refine ig (λe=> ?_) λe0=>ig (λe=> ?_) λe1=>ig (λe=> ?_) λe2=>ig (λe=> ?_) λe3=>ig (λe=> ?_) λe4=>h1 ?_ k
 ·rw[zap e] at u;rw[F6 o.node (g.s.1,g.s.2,k)];refine aA (λc1=>⟨g,k,o.parent,rfl,rfl,λb2 cu=>aA (λc2=>⟨o.name,rfl,rfl,λb3 ma=>bm (by omega) ?_⟩) λc2=>bm (by omega) (h1 ?_ _)⟩) λc1=>bm (by omega) (h1 ?_ _)
  ·cases b3 with
   |true=>exact h2 1 _ (by rw[u,zap ⟨by simpa using c1,by rw[<-cu,c2],ma.symm⟩]) rfl
   |false=>exact h1 (by rw[u,zan (λh=>by rw[h.2.2] at ma;cases ma)]) _
  ·rw[u,zan (λh=>by rw[h.2.1] at cu;rw[cu] at c2;cases c2)]
  rw[u,zan (λh=>by rw[h.1] at c1;simp at c1)]
 ·rw[zan e0,zap e] at u;refine⟨g,k,o.node,rfl,rfl,λb2 cu=>aA (λc2=>⟨g,k,o.parent,rfl,rfl,λb3 ma=>aA (λc3=>⟨o.name,rfl,rfl,λb4 hb4=> ?_⟩) λc3=>h1 ?_ _⟩) λc2=>h1 ?_ _⟩
  ·cases b4 with
   |true=>exact h2 0 k (by rw[u,zap ⟨by rw[<-cu,c2],by rw[<-ma,c3],hb4.symm⟩]) (by omega)
   |false=>exact h1 (by rw[u,zan (λh=>by rw[h.2.2] at hb4;cases hb4)]) _
  ·rw[u,zan (λh=>by rw[h.2.1] at ma;rw[ma] at c3;cases c3)]
  rw[u,zan (λh=>by rw[h.1] at cu;rw[cu] at c2;cases c2)]
 ·rw[zan e0,zan e1,zap e] at u;refine⟨g,k,o.node,rfl,rfl,λb2 cu=>aA (λc2=>⟨g,k,o.cp,rfl,rfl,hs.2.1,λb3 ma=> ?_⟩) λc2=>h1 ?_ _⟩
  ·cases b3 with
   |true=>exact h2 0 k (by rw[u,zap ⟨by rw[<-cu,c2],ma.symm⟩]) (by omega)
   |false=>exact h1 (by rw[u,zan (λh=>by rw[h.2] at ma;cases ma)]) _
  rw[u,zan (λh=>by rw[h.1] at cu;rw[cu] at c2;cases c2)]
 ·rw[zan e0,zan e1,zan e2,zap e] at u;have cb: ∀n,n=BU o.text->0<=n/\n<=2000000:=λn hn=>by have g1:=Al o.text;have g2:=EY o.text;have:=hs.1;omega
  refine⟨o.text,rfl,rfl,hs.1,λhv=> ?_,λhv n hn=> ?_⟩
  ·have hr:nP o.text=false:=by rw[nP,hv];rfl
   have bS:kN g.s k o=none:=by rw[u,zan (λh=>by rw[h.2.2.2] at hr;cases hr)]
   refine⟨g,k,o.node,rfl,rfl,λb2 cu=>aA (λc2=>⟨g,k,o.after,rfl,rfl,λb3 ma=>aA (λc3=>aA (λc4=>bm (by omega) (h1 bS _)) λc4=>bm (by omega) (h1 bS _)) λc3=>bm (by omega) (h1 bS _)⟩) λc2=>bm (by omega) (h1 bS _)⟩
  have:=cb n hn;have hr:nP o.text=decide (1<=n/\n<=2000):=by rw[nP,hv,zaS,hn]
  refine⟨g,k,o.node,rfl,rfl,λb2 cu=>aA (λc2=>⟨g,k,o.after,rfl,rfl,λb3 ma=>aA (λc3=> ?_) λc3=>bm (by omega) (h1 ?_ _)⟩) λc2=>bm (by omega) (h1 ?_ _)⟩
  ·rw[F6 o.elem (g.s.1,g.s.2,k)];refine aA (λc4=>bf (λc5=>bm (by omega) ?_) λc5=>bm (by omega) (h1 ?_ _)) λc4=>bm (by omega) (h1 ?_ _)
   ·by_cases c6:n<=2000
    ·rw[show decide (n<=2000)=true from zaY c6];exact h2 n _ (by rw[u,zap ⟨by rw[<-cu,c2],by rw[<-ma,c3],by simpa using c4,by rw[hr];exact zaY ⟨c5,c6⟩⟩,hn]) rfl
    rw[show decide (n<=2000)=false from zaO c6];exact h1 (by rw[u,zan (λh=>by rw[hr] at h;exact c6 (zbJ h.2.2.2).2)]) _
   ·rw[u,zan (λh=>by rw[hr] at h;exact c5 (zbJ h.2.2.2).1)]
   rw[u,zan (λh=>by rw[h.2.2.1] at c4;simp at c4)]
  ·rw[u,zan (λh=>by rw[h.2.1] at ma;rw[ma] at c3;cases c3)]
  rw[u,zan (λh=>by rw[h.1] at cu;rw[cu] at c2;cases c2)]
 ·rw[zan e0,zan e1,zan e2,zan e3,zap e] at u;refine⟨g,k,o.node,rfl,rfl,λb2 cu=>aA (λc2=>⟨g,k,o.elems,rfl,rfl,hs.2.2,λb3 ma=> ?_⟩) λc2=>h1 ?_ _⟩
  ·cases b3 with
   |true=>exact h2 0 k (by rw[u,zap ⟨by rw[<-cu,c2],ma.symm⟩]) (by omega)
   |false=>exact h1 (by rw[u,zan (λh=>by rw[h.2] at ma;cases ma)]) _
  rw[u,zan (λh=>by rw[h.1] at cu;rw[cu] at c2;cases c2)]
 rw[u,zan e0,zan e1,zan e2,zan e3,zan e4])
theorem qbE:LD X 51 11 (ah (aK 51 11) qfR):=LD.idx (H:=[(83,qfQ)]) (hk:=[]) (by kernel_rfl) (by kernel_rfl) (.cons qjf .nil) .nil
 (A:=ak) (B:=Int) (λg k i=>wcH g k i) (λg=>g.ops.length) (λg i k=>(Q9 g/\g.ops.length<=200)/\(0<=k/\k<=2000000*i)/\jg g.s 0 g.ops=jg g.s k (g.ops.drop i))
 (λg x=>(jg g.s 0 g.ops=false/\x=(.ret,⟨59,[(2,iD 80)],[]⟩))\/(jg g.s 0 g.ops=true/\x=(.exit 1,⟨59,[],[]⟩)))
 (by
  rintro g k i ae h0 bK aQ ⟨hs,hk,he⟩ hn ho
  (rw[<-UU];delta Zk Zm Zn pX kz kA iO kB kg gY kh iy PO ZA xA bP cE Za Z9 Zw Z5N iB UF xv xw xx A1 BY A2 BZ B0 yf A3 A4 A5 A6 A7 vQ vR vS xy E1 Z4Z Zt jT Z5T Z5S Z5R UQ UR US Z5U Ra Rb UT)
  have e1:D.nth (g.ops.map dC) i.toNat=dC g.ops[i.toNat]:=ax _ _ _ aQ;rw[e1];simp only[wcH,zaa] at hn⊢;have hd:g.ops.drop i.toNat=g.ops[i.toNat]::g.ops.drop (i.toNat+1):=za4 aQ;have Q0:=hs.1.1 _ (zaq aQ);have xV:=hs.2;rw[hd] at he;generalize g.ops[i.toNat]=o at he Q0;refine Ao bK (bm ⟨h0,bK⟩ (aq (IE _) ⟨g,k,o,rfl,rfl,⟨Q0,by unfold kOk;omega⟩,λh k'=>ho _ (λh=>by cases h) (.inl ⟨?_,rfl⟩),λn k' h nj=>bm (by omega) (hn k' ⟨hs,?_,?_⟩)⟩))
  ·rw[he,jg,h]
  ·have:=UY h Q0.1;omega
  rw[he,jg,h,nj])
 (by
  rintro g k i ae hi ⟨hs,hk,he⟩ ho
  (rw[<-UU];delta Zk Zm Zn pX kz kA iO kB kg gY kh iy PO ZA xA bP cE Za Z9 Zw Z5N iB UF xv xw xx A1 BY A2 BZ B0 yf A3 A4 A5 A6 A7 vQ vR vS xy E1 Z4Z Zt jT Z5T Z5S Z5R UQ UR US Z5U Ra Rb UT)
  simp only[zaa];refine bf (λh=>by omega) λh=>ho _ (λh=>by cases h) (.inr ⟨?_,rfl⟩);rw[he,zdh];rfl)
 (by
  rintro s ae ⟨g,rfl,hs,h1,h2⟩;refine⟨g,0,rfl,⟨hs,by omega,rfl⟩,?_⟩;rintro x (⟨h,rfl⟩| ⟨h,rfl⟩)
  ·exact h1 h
  exact h2 h)
theorem qdt:FD X 51 IG:=FD.mk (H:=[(81,Lt),(82,xu),(66,An)]) (hk:=[(11,ah (aK 51 11) qfR)]) (by kernel_rfl) (.cons qbD (.cons UJ (.cons Lq .nil))) (.cons qbE .nil) (by
 intro ps R ae hh;obtain⟨g,rfl,rfl,hs,hp⟩:=hh
 (rw[<-qje];delta Z7 Z8 E5 Z63 Z64 rA kz kA iO kB kg gY kh iy xA pX bP cE Z62 Z5Z Z2 iP iQ nb PQ Ln Z60 jy Z61 Z5Y lX Zo jz)
 have bS:cy g=false->ae (.d (.int .i64 80),[]):=λh=>hp _ (by rw[h];rfl);have my:cy g=true->ae (.d (.int .i64 0),[]):=λh=>hp _ (by rw[h];rfl);have u:=cy.eq_1 g;refine⟨g,rfl,rfl,hs,λb hb=>aA (λc1=>bS ?_) λc1=> ?_⟩
 ·rw[u,<-hb,show b=false by simpa using c1];rfl
 rw[<-hb,show b=true by simpa using c1,zaS] at u;rw[Lp g.bs (0,0)];simp only[zaa];refine aA (λc2=>⟨g.bs,rfl,rfl,λb2 cu=>aA (λc3=>bS ?_) λc3=>⟨g.bs,g.s,rfl,rfl,λc hc=>bf (λc4=>bS ?_) λc4=>bf (λc5=>bS ?_) λc5=>my ?_⟩⟩) λc2=>bf (λc3=>bS ?_) λc3=>bf (λc4=>bS ?_) λc4=>⟨g,by simp only[],⟨hs,by omega⟩,λh=>bS ?_,λh=>my ?_⟩
 ·rw[zap (by simpa using c2),<-cu,show b2=false by simpa using c3] at u;rw[u];rfl
 ·have e4:jP g.bs g.s=false:=by rw[<-zaQ,<-hc.lt];omega
  rw[zap (by simpa using c2),e4] at u;rw[u];simp
 ·rw[zap (by simpa using c2)] at u;rw[u,show(g.ops.length==0)=false by rw[zc0];omega];simp
 ·have e4:jP g.bs g.s=true:=by rw[<-hc.lt];omega
  rw[zap (by simpa using c2),<-cu,show b2=true by simpa using c3,e4,show(g.ops.length==0)=true by rw[zaW];omega] at u;rw[u];rfl
 ·rw[zan (by simpa using c2),zaO (by omega)] at u;rw[u];rfl
 ·rw[zan (by simpa using c2),zaO (by omega)] at u;rw[u];rfl
 ·rw[zan (by simpa using c2),h] at u;rw[u];simp
 rw[zan (by simpa using c2),h,zaY (by omega)] at u;rw[u];rfl)
end
abbrev gbB(g:ak):Obj:= .box 34 [iD g.s.1,iD g.s.2,iD g.n,.d (.sl 1 (aY g.deps)),iD g.bs.1,iD g.bs.2,qfL g.ops]
abbrev gbR(g:ak):List (Nat×En):=[(0,⟨0,none,gbB g⟩)]
def o9:bg:=λps R ae=> ∃g k x,ps=[.d (aR g),.d (bV x),iD k]/\R=[]/\ ∀b,b=cZ g.s k x->ae (kM b,[])
def UZ:bg:=λps R ae=> ∃g k x,ps=[.d (aR g),.d (bV x),iD k]/\R=[]/\ ∀b,b=mj g.s k x->ae (kM b,[])
def Lu:bg:=λps R ae=> ∃o a b c d e,ps=[.d (dC o),kM a,kM b,kM c,kM d,kM e]/\R=[]/\ ∀r,r=mF o a b c d e->ae (kM r,[])
theorem U0(g:ak)(k:Int)(x:av)(ae:P×List (Nat×En)->Prop):(∃(aX:av),e8 x=e8 aX/\Zo/\ ∀(b:Bool),b=rgX aX->bif lX b then Z4 ae else∃(a:ay) (b:ay),P.d (D.agg [eO x,eN x])::Ln g=nb a::jy b/\Zo/\ ∀(r:Bool),r=jP a b->bif r then ZX ae else bif Z4u x g then ae (P.d (D.bool (decide (eX x<k))),[]) else Z4 ae)=(aJ [(151,PN),(14,qJ)] [] 140 [.d (aR g),.d (bV x),iD k] []) ae:=by kernel_rfl
theorem qfV(g:ak)(k:Int)(x:av)(ae:P×List (Nat×En)->Prop):(bif Z4y x then ZX ae else∃(bq:ak) (bX:Int) (aX:av),jz g::l9 x::Zn k=jz bq::l9 aX::Zn bX/\Zo/\ ∀(b:Bool),A0 b bq bX aX->ae (dV b,[]))=(aJ [(140,o9)] [] 137 [.d (aR g),.d (bV x),iD k] []) ae:=by kernel_rfl
def Z66(d:Bool)(e:Bool)(ae:P×List (Nat×En)->Prop)(o:bc):Prop:=bif d then bif e then ZX ae else ae (P.d (D.bool (Z51 o==(0:Int))),[]) else bif Prod.fst (bc.after o)==(0:Int)&&(A2 o==(0:Int)&&true)&&(A1 o==(0:Int)&&true) then bif xx o==(0:Int)&&(xw o==(0:Int)&&true)&&(xv o==(0:Int)&&true) then bif bc.text o==[] then bif e then ZX ae else ae (P.d (D.bool (Z51 o==(0:Int))),[]) else Z4 ae else Z4 ae else Z4 ae
def Z67(c:Bool)(o:bc)(ae:P×List (Nat×En)->Prop)(d:Bool)(e:Bool):Prop:=bif lX c then bif decide (Iy o>(0:Int)) then Z4 ae else Z66 d e ae o else Z66 d e ae o
theorem qbF(o:bc)(a b c d e:Bool)(ae:P×List (Nat×En)->Prop):(bif lX a then bif !(Prod.fst (bc.parent o)==(0:Int)&&(A5 o==(0:Int)&&true)&&(A3 o==(0:Int)&&true)) then Z4 ae else bif !bc.name o==[] then Z4 ae else bif lX b then bif bc.dir o then Z4 ae else Z67 c o ae d e else Z67 c o ae d e else bif lX b then bif bc.dir o then Z4 ae else Z67 c o ae d e else Z67 c o ae d e)=(aJ [] [] 139 [.d (dC o),kM a,kM b,kM c,kM d,kM e] []) ae:=by kernel_rfl
abbrev qfW(g:ak)(l:List ay)(i:Int):S:=⟨47,[(1,eS l),(2,.ref 0 0 0),(5,iD i)],gbR g⟩
def yg(g:ak):En:=En.mk 0 none (Obj.box (34:TypeId) [P.d (iy g),P.d (gY g),P.d (kB g),P.d (iO g),P.d (kA g),P.d (kz g),pX g])
def F7(g:ak):List (Nat×En):=[(0,yg g)]
def JI:Nat×P:=(2,bP)
def Z68(ae:PX×S->Prop)(l:List ay):Prop:=ae (PX.ret,S.mk 47 (rj l::Zv) [])
theorem II(g:ak)(l:List ay)(i:Int)(ae:PX×S->Prop):(bif Q6 i l then ob (NH i l) (ob (u7 l i) (∃(s:ay),Z5i l i=jy s/\Zo/\ ∀(b:Bool),b=EK s->bif lX b then Z68 ae l else ob (NH i l) (ob (u7 l i) (∃(a:ay) (b:ay),PQ g::Z5i l i=nb a::jy b/\Zo/\ ∀(r:Bool),r=jP a b->bif r then Z68 ae l else bif ZF i then ob (Zb i) (ob (decide ((0:Int)<=i-(1:Int)/\i-(1:Int)<B1 l)) (ob (Z5c l i) (ob (NH i l) (ob (u7 l i) (∃(a:ay) (b:ay),P.d (D.agg (Z5e l i))::Z5i l i=nb a::jy b/\Zo/\ ∀(r:Bool),r=jP a b->bif lX r then Z68 ae l else ob (Zw i) (ae (PX.normal,S.mk 47 (rj l::JI::ZB i) (F7 g)))))))) else ob (Zw i) (ae (PX.normal,S.mk 47 (rj l::JI::ZB i) (F7 g))))))) else ae (PX.exit 0,S.mk 47 [rj l] []))=(aD [(104,xu),(14,qJ)] [] 141 2 (qfW g l i)) ae:=by kernel_rfl
abbrev qfX(g:ak)(k:Int)(l:List av)(i:Int):S:=⟨47,[(1,cI l),(2,iD k),(3,.ref 0 0 0),(7,iD i)],gbR g⟩
def Z6c(i:Int)(ae:PX×S->Prop)(l:List av)(k:Int)(g:ak):Prop:=ob (Zw i) (ae (PX.normal,S.mk 47 (oo l::(2,Zm k)::cE::ZT i) (F7 g)))
theorem Dh(g:ak)(k:Int)(l:List av)(i:Int)(ae:PX×S->Prop):(bif QU i l then ob (Jz i l) (ob (vN l i) (∃(bq:ak) (bX:Int) (x:av),jz g::P.d (D.agg (Q7 l i))::Zn k=jz bq::l9 x::Zn bX/\Zo/\ ∀(b:Bool),A0 b bq bX x->bif lX b then ae (PX.ret,S.mk 47 (oo l::Z2k) []) else bif ZF i then ob (Zb i) (ob (decide ((0:Int)<=i-(1:Int)/\i-(1:Int)<wW l)) (ob (Q8 l i) (ob (Jz i l) (ob (vN l i) (∃(x:av) (y:av),Z5n l i=l9 x::e8 y/\Zo/\ ∀(c:Int),NG x y c->bif Z2 c then ae (PX.ret,S.mk 47 (oo l::Z2k) []) else Z6c i ae l k g))))) else Z6c i ae l k g)) else ae (PX.exit 0,S.mk 47 [oo l] []))=(aD [(140,o9),(88,ri)] [] 143 2 (qfX g k l i)) ae:=by kernel_rfl
section
variable{X:XF}
theorem Aq:FD X 140 o9:=FD.mk (H:=[(151,PN),(14,qJ)]) (by kernel_rfl) (.cons qfO (.cons Ap .nil)) .nil (by
 intro ps R ae hh;obtain⟨g,k,x,rfl,rfl,hp⟩:=hh
 (rw[<-U0];delta eX kg e7 kh Z4u ZW ZX iP iQ nb jy gY iy PQ Ln eN eO Z3 Z4 lX Zo eY l9 e8)
 refine⟨x,rfl,rfl,λb hb=>aA (λh1=>hp _ ?_) λh1=>⟨BT x,g.s,rfl,rfl,λc hc=>aA (λh2=>hp _ ?_) λh2=>aA (λh3=>hp _ ?_) λh3=>hp _ ?_⟩⟩
 ·rw[cZ,<-hb,show b=false by simpa using h1];rfl
 ·rw[cZ,<-hb,show b=true by simpa using h1,<-hc,h2];rfl
 ·have e:(BT x==g.s)=true:=by rw[<-Lp (BT x) g.s];exact h3
  rw[cZ,<-hb,show b=true by simpa using h1,<-hc,h2,e];simp
 have e:(BT x==g.s)=false:=by rw[<-Lp (BT x) g.s];exact h3
 rw[cZ,<-hb,show b=true by simpa using h1,<-hc,h2,e];rfl)
theorem qfY:FD X 137 UZ:=FD.mk (H:=[(140,o9)]) (by kernel_rfl) (.cons Aq .nil) .nil (by
 intro ps R ae hh;obtain⟨g,k,x,rfl,rfl,hp⟩:=hh
 (rw[<-qfV];delta dV A0 Zo Zk Zm Zn eX eY e7 eN eO l9 kz kA iO kB kg gY kh iy jz ZW ZX Z4y)
 refine aA (λh1=>hp _ ?_) λh1=>⟨g,k,x,rfl,rfl,λb hb=>hp _ ?_⟩
 ·rw[mj,<-F6 x aB,h1];rfl
 rw[mj,<-F6 x aB,h1,hb];rfl)
theorem qbG:FD X 139 Lu:=FD.mk (H:=[]) (by kernel_rfl) .nil .nil (by
 intro ps R ae hh;obtain⟨o,a,b,c,d,e,rfl,rfl,hp⟩:=hh
 (rw[<-qbF];delta Z3 Z4 xv xw xx A1 A2 Z51 ZW ZX Z66 Iy lX Z67 A3 A5)
 rw[show(o.parent.1==0&&(o.parent.2.1==0&&true)&&(o.parent.2.2==0&&true))=(o.parent==aB) from F6 o.parent aB,show(o.after.1==0&&(o.after.2.1==0&&true)&&(o.after.2.2==0&&true))=(o.after==aB) from F6 o.after aB,
  show(o.elem.1==0&&(o.elem.2.1==0&&true)&&(o.elem.2.2==0&&true))=(o.elem==aB) from F6 o.elem aB]
 have e1:decide (((o.cp.map bh).length:Int)>0)= !(o.cp.length==0):=by
  rw[zaa];cases o.cp with
  |nil=>rfl
  |cons x t=>rw[zaY (by simp)];rfl
 have e2:(((o.elems.map bV).length:Int)==0)=(o.elems.length==0):=by rw[zaa];exact lnE _ 0
 rw[e1,e2];unfold mF at hp;generalize (o.parent==aB)=P1 at*
 generalize (o.after==aB)=P2 at*
 generalize (o.elem==aB)=P3 at*
 generalize (o.cp.length==0)=P4 at*
 generalize (o.elems.length==0)=P5 at*
 generalize (o.name==[])=P6 at*
 generalize (o.text==[])=P7 at*
 generalize o.dir=P8 at*
 cases a<;>cases b<;>cases c<;>cases d<;>cases e
 all_goals (simp only[zdr,Bool.not_false,zb1,zbq,zco,zbu,zaS,zbx] at hp⊢)
 all_goals (repeat' (first | (refine aA (λh=> ?_) (λh=> ?_))))
 all_goals (refine hp _ ?_;simp_all))
def Lv:S->K (PX×S):=λst ae=> ∃g l,st=qfW g l 0/\l.length<=9223372036854775807/\(lQ l.length (ml g.s l)=false->ae (.ret,⟨47,[(1,eS l),(4,kM false)],[]⟩))/\(lQ l.length (ml g.s l)=true->ae (.exit 0,⟨47,[(1,eS l)],[]⟩))
theorem PU:LD X 141 2 (ah (aK 141 2) Lv):=LD.find (H:=[(104,xu),(14,qJ)]) (hk:=[]) (by kernel_rfl) (by kernel_rfl) (.cons UK (.cons Ap .nil)) .nil
 (A:=ak×List ay) (λa k=>qfW a.1 a.2 k) (λa=>a.2) (λa j _=> !ml a.1.s a.2 j) (λa=>a.2.length<=9223372036854775807)
 (λa _=>(.ret,⟨47,[(1,eS a.2),(4,kM false)],[]⟩)) (λa=>(.exit 0,⟨47,[(1,eS a.2)],[]⟩)) (λ_ _ h=>by cases h) (λ_ h=>by cases h)
 (by
  rintro⟨g,l⟩ i ae hi hC h0 bK ht hn;dsimp only at*
  (rw[<-II];delta pX kz kA iO kB kg gY kh iy yg F7 ZA ZB bP JI dq kC rj Za Z9 Zw Zc Z5e Z5c B1 Zb ZF iP iQ nb PQ Z3 Zv Z68 lX Zo jy Zt Iz F5 IA Z5i u7 NH Q6)
  have e1:D.nth (l.map bh) i.toNat=bh l[i.toNat]:=ax _ _ _ hi;have d1:=dW hi ((0,0):ay);rw[e1];simp only[zaa];refine Ao bK (bm ⟨h0,bK⟩ (aq (jM _) ⟨l[i.toNat],rfl,rfl,λb hb=>aA (λh1=> ?_) λh1=>bm ⟨h0,bK⟩ (aq (jM _) ⟨g.s,l[i.toNat],rfl,rfl,λc hc=>aA (λh2=> ?_) λh2=>bf (λh3=> ?_) λh3=> ?_⟩)⟩))
  ·refine ht ?_;rw[ml,d1,<-hb,show b=false by simpa using h1];rfl
  ·refine ht ?_;rw[ml,d1,<-hc,h2];simp
  ·have e2:D.nth (l.map bh) (i-1).toNat=bh (l[(i-1).toNat]'(by omega)):=ax _ _ _ (by omega);have d2:=dW (show(i-1).toNat<l.length by omega) ((0,0):ay);rw[e2];refine bm (by omega) (bm ⟨by omega,by omega⟩ (aq (jM _) (bm ⟨h0,bK⟩ (aq (jM _) ⟨l[(i-1).toNat],l[i.toNat],rfl,rfl,λc' rU=>aA (λh4=>ht ?_) λh4=>bm (by omega) (hn ?_)⟩))))
   ·rw[ml,d1,show i.toNat-1=(i-1).toNat by omega,d2,<-rU,show c'=false by simpa using h4,show(i.toNat==0)=false by simp;omega];simp
   rw[ml,d1,show i.toNat-1=(i-1).toNat by omega,d2,<-hc,h2,<-rU,show c'=true by simpa using h4,<-hb,show b=true by simpa using h1];simp
  refine bm (by omega) (hn ?_);rw[ml,d1,<-hc,h2,<-hb,show b=true by simpa using h1,show(i.toNat==0)=true by simp;omega];simp)
 (by
  rintro⟨g,l⟩ i ae hC hi hp;dsimp only at*
  (rw[<-II];delta pX kz kA iO kB kg gY kh iy yg F7 ZA ZB bP JI dq kC rj Za Z9 Zw Zc Z5e Z5c B1 Zb ZF iP iQ nb PQ Z3 Zv Z68 lX Zo jy Zt Iz F5 IA Z5i u7 NH Q6)
  simp only[zaa];exact bf (λh=>by omega) λh=>hp)
 (by rintro s ae ⟨g,l,rfl,hl,h1,h2⟩;refine⟨(g,l),rfl,hl,λi hi h0 ht _=>h1 (EL (i:=i.toNat) hi (by simpa using ht)),λh=>h2 (vL λi hi=>by simpa using h i hi)⟩)
def E6:S->K (PX×S):=λst ae=> ∃g k l,st=qfX g k l 0/\l.length<=9223372036854775807/\(lQ l.length (C5 g.s k l)=false->ae (.ret,⟨47,[(1,cI l),(6,kM false)],[]⟩))/\(lQ l.length (C5 g.s k l)=true->ae (.exit 0,⟨47,[(1,cI l)],[]⟩))
theorem Lw:LD X 143 2 (ah (aK 143 2) E6):=LD.find (H:=[(140,o9),(88,ri)]) (hk:=[]) (by kernel_rfl) (by kernel_rfl) (.cons Aq (.cons PS .nil)) .nil
 (A:=ak×Int×List av) (λa k=>qfX a.1 a.2.1 a.2.2 k) (λa=>a.2.2) (λa j _=> !C5 a.1.s a.2.1 a.2.2 j) (λa=>a.2.2.length<=9223372036854775807)
 (λa _=>(.ret,⟨47,[(1,cI a.2.2),(6,kM false)],[]⟩)) (λa=>(.exit 0,⟨47,[(1,cI a.2.2)],[]⟩)) (λ_ _ h=>by cases h) (λ_ h=>by cases h)
 (by
  rintro⟨g,k,l⟩ i ae hi hC h0 bK ht hn;dsimp only at*
  (rw[<-Dh];delta pX kz kA iO kB kg gY kh iy yg F7 ZA ZT bP cE Zk Zm fg gJ oo Za Z9 Zw Z6c Z2 eX eY e7 eN eO l9 e8 Zt FT FU FV Q7 Zc Z5l Z5n Q8 oi wW Zb ZF Z3 Z2k lX A0 Zo Zn jz vN Jz QU)
  have e1:D.nth (l.map bV) i.toNat=bV l[i.toNat]:=ax _ _ _ hi;have d1:=dW hi aB;rw[e1];simp only[zaa];refine Ao bK (bm ⟨h0,bK⟩ (aq (mg _) ⟨g,k,l[i.toNat],rfl,rfl,λb hb=>aA (λh1=> ?_) λh1=>bf (λh3=> ?_) λh3=> ?_⟩))
  ·refine ht ?_;rw[C5,d1,<-hb,show b=false by simpa using h1];rfl
  ·have e2:D.nth (l.map bV) (i-1).toNat=bV (l[(i-1).toNat]'(by omega)):=ax _ _ _ (by omega);have d2:=dW (show(i-1).toNat<l.length by omega) aB;rw[e2];refine bm (by omega) (bm ⟨by omega,by omega⟩ (aq (mg _) (bm ⟨h0,bK⟩ (aq (mg _) ⟨l[(i-1).toNat],l[i.toNat],rfl,rfl,λc' rU=>bf (λh4=>ht ?_) λh4=>bm (by omega) (hn ?_)⟩))))
   ·have e4:mh l[(i-1).toNat] l[i.toNat]=false:=by rw[<-zaQ,<-rU.lt];omega
    rw[C5,d1,show i.toNat-1=(i-1).toNat by omega,d2,e4,show(i.toNat==0)=false by simp;omega];simp
   have e4:mh l[(i-1).toNat] l[i.toNat]=true:=by rw[<-rU.lt];omega
   rw[C5,d1,show i.toNat-1=(i-1).toNat by omega,d2,e4,<-hb,show b=true by simpa using h1];simp
  refine bm (by omega) (hn ?_);rw[C5,d1,<-hb,show b=true by simpa using h1,show(i.toNat==0)=true by simp;omega];simp)
 (by
  rintro⟨g,k,l⟩ i ae hC hi hp;dsimp only at*
  (rw[<-Dh];delta pX kz kA iO kB kg gY kh iy yg F7 ZA ZT bP cE Zk Zm fg gJ oo Za Z9 Zw Z6c Z2 eX eY e7 eN eO l9 e8 Zt FT FU FV Q7 Zc Z5l Z5n Q8 oi wW Zb ZF Z3 Z2k lX A0 Zo Zn jz vN Jz QU)
  simp only[zaa];exact bf (λh=>by omega) λh=>hp)
 (by rintro s ae ⟨g,k,l,rfl,hl,h1,h2⟩;refine⟨(g,k,l),rfl,hl,λi hi h0 ht _=>h1 (EL (i:=i.toNat) hi (by simpa using ht)),λh=>h2 (vL λi hi=>by simpa using h i hi)⟩)
end
theorem qbH(g:ak)(l:List ay)(ae:P×List (Nat×En)->Prop):(∃(bq:ak) (au:List ay),S.mk 47 (rj l::JI::ZV) (F7 g)=S.mk 47 (rj au::JI::ZV) (F7 bq)/\dv au<=ZJ/\(lQ (dv au) (ml (ak.s bq) au)=false->Z4 ae)/\(lQ (dv au) (ml (ak.s bq) au)=true->ae (P.d (D.bool (decide (B1 au<=(200:Int)))),[])))=(aJ [] [(2,ah (aK 141 2) Lv)] 141 [.d (aR g),eS l] []) ae:=by kernel_rfl
theorem U1(g:ak)(k:Int)(l:List av)(ae:P×List (Nat×En)->Prop):(∃(bq:ak) (bX:Int) (au:List av),S.mk 47 (oo l::(2,Zm k)::cE::pU) (F7 g)=S.mk 47 (oo au::(2,Zm bX)::cE::pU) (F7 bq)/\fF au<=ZJ/\(lQ (fF au) (C5 (ak.s bq) bX au)=false->Z4 ae)/\(lQ (fF au) (C5 (ak.s bq) bX au)=true->bif decide (wW au>=(1:Int)) then ae (P.d (D.bool (decide (wW au<=(2000:Int)))),[]) else Z4 ae))=(aJ [] [(2,ah (aK 143 2) E6)] 143 [.d (aR g),cI l,iD k] []) ae:=by kernel_rfl
def Lx:bg:=λps R ae=> ∃g l,ps=[.d (aR g),eS l]/\R=[]/\l.length<=9223372036854775807/\ ∀b,b=nO g.s l->ae (kM b,[])
def E7:bg:=λps R ae=> ∃g k l,ps=[.d (aR g),cI l,iD k]/\R=[]/\l.length<=9223372036854775807/\ ∀b,b=uj g.s k l->ae (kM b,[])
def Z6d(s0:List P)(aU:bc)(a:Bool)(b:Bool)(c:Bool)(d:Bool)(e:Bool):Prop:=s0=[P.d (E1 aU),dV a,dV b,dV c,dV d,dV e]
def Z6e(ae:P×List (Nat×En)->Prop):List P->Prop:=λ(s0:List P)=> ∃(aU:bc) (a:Bool) (b:Bool) (c:Bool) (d:Bool) (e:Bool),Z6d s0 aU a b c d e/\Zo/\ ∀(r:Bool),r=mF aU a b c d e->bif r then Z8 ae else Zf ae
def Z6f(g:ak)(o:bc)(k:Int):List P:=jz g::Z5w o::Zn k
theorem qjg(g:ak)(k:Int)(o:bc)(ae:P×List (Nat×En)->Prop):(bif bc.kind o==(0:Int) then bif Z5s o g k then∃(bq:ak) (bX:Int) (x:av),jz g::Z5v o::Zn k=jz bq::l9 x::Zn bX/\Zo/\ ∀(b:Bool),b=mj (ak.s bq) bX x->bif b then∃(s:List UInt8),Z5u o=ug s/\Zo/\ ∀(b:Bool),b=dO s->bif b then∃(aU:bc) (a:Bool) (b:Bool) (c:Bool) (d:Bool) (e:Bool),P.d (E1 o)::ZW::ZW::P.d Z3::P.d Z3::F4=[P.d (E1 aU),dV a,dV b,dV c,dV d,dV e]/\Zo/\ ∀(r:Bool),r=mF aU a b c d e->bif r then Zh ae else Zf ae else Zf ae else Zf ae else Zf ae else bif bc.kind o==(1:Int) then∃(bq:ak) (bX:Int) (x:av),Z6f g o k=jz bq::l9 x::Zn bX/\Zo/\ ∀(b:Bool),A0 b bq bX x->bif b then∃(pY:ak) (U2:Int) (x:av),jz g::Z5v o::Zn k=jz pY::l9 x::Zn U2/\Zo/\ ∀(b:Bool),b=mj (ak.s pY) U2 x->bif b then∃(s:List UInt8),Z5u o=ug s/\Zo/\ ∀(b:Bool),b=dO s->bif b then Z6e ae (P.d (E1 o)::ZW::P.d Z3::P.d Z3::P.d Z3::F4) else Zf ae else Zf ae else Zf ae else bif bc.kind o==(2:Int) then∃(bq:ak) (bX:Int) (x:av),Z6f g o k=jz bq::l9 x::Zn bX/\Zo/\ ∀(b:Bool),A0 b bq bX x->bif b then∃(pY:ak) (l:List ay),[jz g,P.d (yf o)]=[jz pY,kC l]/\Zo/\dv l<=ZJ/\ ∀(b:Bool),b=nO (ak.s pY) l->bif b then Z6e ae (P.d (E1 o)::P.d Z3::P.d Z3::ZW::P.d Z3::F4) else Zf ae else Zf ae else bif bc.kind o==(3:Int) then∃(s:List UInt8),[P.d (D.str (bc.text o))]=ug s/\Zo/\JF s/\(UC s-> ∃(bq:ak) (bX:Int) (x:av),Z6f g o k=jz bq::l9 x::Zn bX/\Zo/\ ∀(b:Bool),A0 b bq bX x->bif b then∃(pY:ak) (U2:Int) (x:av),jz g::Z5A o::Zn k=jz pY::l9 x::Zn U2/\Zo/\ ∀(b:Bool),b=mj (ak.s pY) U2 x->bif b then bif Z5y o g k then Zf ae else Zf ae else Zf ae else Zf ae)/\(UB s-> ∀(n:Int),n=BU s-> ∃(bq:ak) (bX:Int) (x:av),Z6f g o k=jz bq::l9 x::Zn bX/\Zo/\ ∀(b:Bool),A0 b bq bX x->bif b then∃(pY:ak) (U2:Int) (x:av),jz g::Z5A o::Zn k=jz pY::l9 x::Zn U2/\Zo/\ ∀(b:Bool),b=mj (ak.s pY) U2 x->bif b then bif Z5y o g k then bif Z0 n then bif decide (n<=(2000:Int)) then∃(aU:bc) (a:Bool) (b:Bool) (c:Bool) (d:Bool) (e:Bool),P.d (E1 o)::P.d Z3::P.d Z3::P.d Z3::ZW::F4=[P.d (E1 aU),dV a,dV b,dV c,dV d,dV e]/\Zo/\ ∀(r:Bool),r=mF aU a b c d e->bif r then ae (Zm n,[]) else Zf ae else Zf ae else Zf ae else Zf ae else Zf ae else Zf ae) else bif bc.kind o==(4:Int) then∃(bq:ak) (bX:Int) (x:av),Z6f g o k=jz bq::l9 x::Zn bX/\Zo/\ ∀(b:Bool),A0 b bq bX x->bif b then∃(pY:ak) (U2:Int) (l:List av),jz g::P.d (D.sl 3 (List.map bV (bc.elems o)))::Zn k=jz pY::gJ l::Zn U2/\Zo/\fF l<=ZJ/\ ∀(b:Bool),b=uj (ak.s pY) U2 l->bif b then Z6e ae (P.d (E1 o)::P.d Z3::P.d Z3::P.d Z3::P.d Z3::FY) else Zf ae else Zf ae else Zf ae)=(aJ [(139,Lu),(140,o9),(137,UZ),(138,vT),(141,Lx),(143,E7),(142,Df)] [] 106 [.d (aR g),.d (dC o),iD k] []) ae:=by kernel_rfl
def qfZ:bg:=λps R ae=> ∃g k o,ps=[.d (aR g),.d (dC o),iD k]/\R=[]/\SmO o/\(kN g.s k o=none->ae (iD (-1),[]))/\(∀n,kN g.s k o=some n->ae (iD n,[]))
abbrev qf0(g:ak)(k i:Int):S:=⟨90,[(1,.ref 0 0 0),(3,iD k),(4,iD i)],gbR g⟩
theorem U3(g:ak)(k i:Int)(ae:PX×S->Prop):(bif UT i g then ob (Rb i g) (ob (Ra g i) (∃(bq:ak) (bX:Int) (o:bc),jz g::Z5U g i::Zn k=jz bq::P.d (E1 o)::Zn bX/\Zo/\SmO o/\(kN (ak.s bq) bX o=none->ae (PX.ret,S.mk 90 Z5N []))/\ ∀(n:Int),kN (ak.s bq) bX o=some n->bif Yk n then ae (PX.ret,S.mk 90 Z5N []) else ob (Z5B k n) (ob (Zw i) (ae (PX.normal,S.mk 90 ((1,bP)::(3,P.d (D.int .i64 (k+n)))::tq i) (F7 g)))))) else ae (PX.exit 0,S.mk 90 [] []))=(aD [(106,qfZ)] [] 72 11 (qf0 g k i)) ae:=by kernel_rfl
def qf1:S->K (PX×S):=λst ae=> ∃g,st=qf0 g 0 0/\(Q9 g/\g.ops.length<=200)/\(jg g.s 0 g.ops=false->ae (.ret,⟨90,[(2,iD 80)],[]⟩))/\(jg g.s 0 g.ops=true->ae (.exit 0,⟨90,[],[]⟩))
def Z6g(bq:ak):S:=S.mk 90 ((1,bP)::(3,P.d Z7)::K6) (F7 bq)
theorem qjh(g:ak)(ae:P×List (Nat×En)->Prop):(∃(s:ay),Ln g=jy s/\Zo/\ ∀(b:Bool),b=EK s->bif lX b then E5 ae else bif decide (ak.n g<(1:Int)) then E5 ae else bif decide (ak.n g>Z1) then E5 ae else∃(v:List Int),[P.d (iO g)]=wT v/\Zo/\JH v/\ ∀(b:Bool),b=cO v->bif lX b then E5 ae else∃(v:List Int) (r:Int),Z5H g=Zx v::Zn r/\Zo/\JH v/\ ∀(n:Int),n=eK v r->ob (Z5G g) (bif n !=ak.n g-(1:Int) then E5 ae else bif Z5Y g then∃(s:ay),Z61 g=jy s/\Zo/\ ∀(b:Bool),b=EK s->bif lX b then E5 ae else∃(a:ay) (b:ay),Z60 g=nb a::jy b/\Zo/\ ∀(r:Bool),r=jP a b->bif lX r then E5 ae else bif Z5Z g then E5 ae else Z8 ae else bif decide (xA g<(1:Int)) then E5 ae else bif decide (xA g>(200:Int)) then E5 ae else∃(bq:ak),Z6g g=Z6g bq/\Z64 bq ae))=(aJ [(104,xu),(105,Dg),(13,IF),(14,qJ)] [(11,ah (aK 72 11) qf1)] 72 [.d (aR g)] []) ae:=by kernel_rfl
section
variable{X:XF}
theorem qbI:FD X 141 Lx:=FD.mk (H:=[]) (hk:=[(2,ah (aK 141 2) Lv)]) (by kernel_rfl) .nil (.cons PU .nil) (by
 intro ps R ae hh;obtain⟨g,l,rfl,rfl,hl,hp⟩:=hh
 (rw[<-qbH];delta dq B1 Z3 Z4 ZJ dv pX kz kA iO kB kg gY kh iy yg F7 Z7 ZV bP JI kC rj)
 refine⟨g,l,rfl,hl,λh=>hp _ ?_,λh=>hp _ ?_⟩
 ·rw[nO,h];rfl
 rw[nO,h,zaa,zaS,zbL];omega)
theorem U4:FD X 143 E7:=FD.mk (H:=[]) (hk:=[(2,ah (aK 143 2) E6)]) (by kernel_rfl) .nil (.cons Lw .nil) (by
 intro ps R ae hh;obtain⟨g,k,l,rfl,rfl,hl,hp⟩:=hh
 (rw[<-U1];delta fg oi wW Z3 Z4 ZJ fF pX kz kA iO kB kg gY kh iy yg F7 Z7 pU bP cE Zk Zm gJ oo)
 simp only[zaa];refine⟨g,k,l,rfl,hl,λh=>hp _ ?_,λh=>bf (λh2=>hp _ ?_) λh2=>hp _ ?_⟩
 ·rw[uj,h];rfl
 ·rw[uj,h,zaS,zbL];omega
 rw[uj,h,zaS];exact(zaO (by omega)).symm)
theorem U5{s:ay}{k n:Int}{o:bc}(h:kN s k o=some n):fE o=true:=by
 unfold kN at h;split at h
 ·cases h
 rename_i hb;simpa using hb
theorem qji:FD X 106 qfZ:=FD.mk (H:=[(139,Lu),(140,o9),(137,UZ),(138,vT),(141,Lx),(143,E7),(142,Df)]) (by kernel_rfl)
  (.cons qbG (.cons Aq (.cons qfY (.cons UX (.cons qbI (.cons U4 (.cons qbw .nil))))))) .nil (by
 intro ps R ae hh;obtain⟨g,k,o,rfl,rfl,hs,h1,h2⟩:=hh
 (rw[<-qjg];delta ZW FY fF fg gJ Zk Zm Z0 UB xv kg xw kh xx Z5y A1 BY A2 BZ B0 Z5A UC q9 JF ZJ dv dq kC yf Ze Zf Z7 Z8 Zo dV UF A3 A4 A5 A6 A7 vQ vR vS xy E1 Z6d Z6e A0 Zn Z5w kz kA iO kB gY iy jz Z6f Zg Zh Z3 F4 ug Z5u eX eY e7 eN eO l9 Z5v Z5s)
 have ub:fE o=false->kN g.s k o=none:=λh=>by
  cases hh:kN g.s k o with
  |none=>rfl
  |some n=>rw[U5 hh] at h;cases h
 have u:fE o=true->kN g.s k o=_:=λh=>(kN.eq_1 g.s k o).trans (zan (by rw[h];simp));have kb:fE o=mF o (o.kind==0 ||o.kind==1) (o.kind==0) (o.kind==2) (o.kind==3) (o.kind==4):=rfl;refine ig (λe=> ?_) λe0=>ig (λe=> ?_) λe1=>ig (λe=> ?_) λe2=>ig (λe=> ?_) λe3=>ig (λe=> ?_) λe4=>h1 ?_
 ·rw[e] at kb;simp only[zap e] at u;have no: ¬(o.node=(g.s.1,g.s.2,k)/\mj g.s k o.parent=true/\dO o.name=true)->kN g.s k o=none:=λh=>by
   cases hb:fE o with
   |false=>exact ub hb
   |true=>rw[u hb,zan h]
  rw[F6 o.node (g.s.1,g.s.2,k)];refine aA (λc1=>⟨g,k,o.parent,rfl,rfl,λb2 cu=>aA (λc2=>⟨o.name,rfl,rfl,λb3 ma=>aA (λc3=>⟨o,_,_,_,_,_,rfl,rfl,λr hr=>aA (λc4=>h2 _ ?_) λc4=>h1 (ub ?_)⟩) λc3=>h1 (no ?_)⟩) λc2=>h1 (no ?_)⟩) λc1=>h1 (no ?_)
  ·rw[u (by rw[kb,<-c4,hr];rfl),zap ⟨by simpa using c1,by rw[<-cu,c2],by rw[<-ma,c3]⟩]
  ·rw[kb,<-c4,hr];rfl
  ·exact λh=>by rw[h.2.2] at ma;rw[ma] at c3;cases c3
  ·exact λh=>by rw[h.2.1] at cu;rw[cu] at c2;cases c2
  exact λh=>by rw[h.1] at c1;simp at c1
 ·rw[e] at kb;simp only[zan e0,zap e] at u;have no: ¬(cZ g.s k o.node=true/\mj g.s k o.parent=true/\dO o.name=true)->kN g.s k o=none:=λh=>by
   cases hb:fE o with
   |false=>exact ub hb
   |true=>rw[u hb,zan h]
  refine⟨g,k,o.node,rfl,rfl,λb1 j7=>aA (λc1=>⟨g,k,o.parent,rfl,rfl,λb2 cu=>aA (λc2=>⟨o.name,rfl,rfl,λb3 ma=>aA (λc3=>⟨o,_,_,_,_,_,rfl,rfl,λr hr=>aA (λc4=>h2 _ ?_) λc4=>h1 (ub ?_)⟩) λc3=>h1 (no ?_)⟩) λc2=>h1 (no ?_)⟩) λc1=>h1 (no ?_)⟩
  ·rw[u (by rw[kb,<-c4,hr];rfl),zap ⟨by rw[<-j7,c1],by rw[<-cu,c2],by rw[<-ma,c3]⟩]
  ·rw[kb,<-c4,hr];rfl
  ·exact λh=>by rw[h.2.2] at ma;rw[ma] at c3;cases c3
  ·exact λh=>by rw[h.2.1] at cu;rw[cu] at c2;cases c2
  exact λh=>by rw[h.1] at j7;rw[j7] at c1;cases c1
 ·rw[e] at kb;simp only[zan e0,zan e1,zap e] at u;have no: ¬(cZ g.s k o.node=true/\nO g.s o.cp=true)->kN g.s k o=none:=λh=>by
   cases hb:fE o with
   |false=>exact ub hb
   |true=>rw[u hb,zan h]
  refine⟨g,k,o.node,rfl,rfl,λb1 j7=>aA (λc1=>⟨g,o.cp,rfl,rfl,hs.2.1,λb2 cu=>aA (λc2=>⟨o,_,_,_,_,_,rfl,rfl,λr hr=>aA (λc4=>h2 _ ?_) λc4=>h1 (ub ?_)⟩) λc2=>h1 (no ?_)⟩) λc1=>h1 (no ?_)⟩
  ·rw[u (by rw[kb,<-c4,hr];rfl),zap ⟨by rw[<-j7,c1],by rw[<-cu,c2]⟩]
  ·rw[kb,<-c4,hr];rfl
  ·exact λh=>by rw[h.2] at cu;rw[cu] at c2;cases c2
  exact λh=>by rw[h.1] at j7;rw[j7] at c1;cases c1
 ·rw[e] at kb;simp only[zan e0,zan e1,zan e2,zap e] at u;have no: ¬(cZ g.s k o.node=true/\mj g.s k o.after=true/\o.elem=(g.s.1,g.s.2,k)/\nP o.text=true)->kN g.s k o=none:=λh=>by
   cases hb:fE o with
   |false=>exact ub hb
   |true=>rw[u hb,zan h]
  refine⟨o.text,rfl,rfl,hs.1,λhv=> ?_,λhv n hn=> ?_⟩
  ·have hr:nP o.text=false:=by rw[nP,hv];rfl
   have bS:kN g.s k o=none:=no (λh=>by rw[h.2.2.2] at hr;cases hr);exact⟨g,k,o.node,rfl,rfl,λb2 cu=>aA (λc2=>⟨g,k,o.after,rfl,rfl,λb3 ma=>aA (λc3=>aA (λc4=>h1 bS) λc4=>h1 bS) λc3=>h1 bS⟩) λc2=>h1 bS⟩
  have hr:nP o.text=decide (1<=n/\n<=2000):=by rw[nP,hv,zaS,hn]
  rw[F6 o.elem (g.s.1,g.s.2,k)];refine⟨g,k,o.node,rfl,rfl,λb1 j7=>aA (λc1=>⟨g,k,o.after,rfl,rfl,λb2 cu=>aA (λc2=>aA (λc3=>bf (λc5=>bf (λc6=>⟨o,_,_,_,_,_,rfl,rfl,λr hr=>aA (λc4=>h2 _ ?_) λc4=>h1 (ub ?_)⟩) λc6=>h1 (no ?_)) λc5=>h1 (no ?_)) λc3=>h1 (no ?_)) λc2=>h1 (no ?_)⟩) λc1=>h1 (no ?_)⟩
  next tc=>rw[u (by rw[kb,<-c4,hr];rfl),zap ⟨by rw[<-j7,c1],by rw[<-cu,c2],by simpa using c3,by rw[tc];exact zaY ⟨c5,c6⟩⟩,hn]
  ·rw[kb,<-c4,hr];rfl
  ·exact λh=>by rw[hr] at h;exact c6 (zbJ h.2.2.2).2
  ·exact λh=>by rw[hr] at h;exact c5 (zbJ h.2.2.2).1
  ·exact λh=>by rw[h.2.2.1] at c3;simp at c3
  ·exact λh=>by rw[h.2.1] at cu;rw[cu] at c2;cases c2
  exact λh=>by rw[h.1] at j7;rw[j7] at c1;cases c1
 ·rw[e] at kb;simp only[zan e0,zan e1,zan e2,zan e3,zap e] at u;have no: ¬(cZ g.s k o.node=true/\uj g.s k o.elems=true)->kN g.s k o=none:=λh=>by
   cases hb:fE o with
   |false=>exact ub hb
   |true=>rw[u hb,zan h]
  refine⟨g,k,o.node,rfl,rfl,λb1 j7=>aA (λc1=>⟨g,k,o.elems,rfl,rfl,hs.2.2,λb2 cu=>aA (λc2=>⟨o,_,_,_,_,_,rfl,rfl,λr hr=>aA (λc4=>h2 _ ?_) λc4=>h1 (ub ?_)⟩) λc2=>h1 (no ?_)⟩) λc1=>h1 (no ?_)⟩
  ·rw[u (by rw[kb,<-c4,hr];rfl),zap ⟨by rw[<-j7,c1],by rw[<-cu,c2]⟩]
  ·rw[kb,<-c4,hr];rfl
  ·exact λh=>by rw[h.2] at cu;rw[cu] at c2;cases c2
  exact λh=>by rw[h.1] at j7;rw[j7] at c1;cases c1
 cases hb:fE o with
 |false=>exact ub hb
 |true=>rw[u hb,zan e0,zan e1,zan e2,zan e3,zan e4])
theorem qbJ:LD X 72 11 (ah (aK 72 11) qf1):=LD.idx (H:=[(106,qfZ)]) (hk:=[]) (by kernel_rfl) (by kernel_rfl) (.cons qji .nil) .nil
 (A:=ak) (B:=Int) (λg k i=>qf0 g k i) (λg=>g.ops.length) (λg i k=>(Q9 g/\g.ops.length<=200)/\(0<=k/\k<=2000000*i)/\jg g.s 0 g.ops=jg g.s k (g.ops.drop i))
 (λg x=>(jg g.s 0 g.ops=false/\x=(.ret,⟨90,[(2,iD 80)],[]⟩))\/(jg g.s 0 g.ops=true/\x=(.exit 0,⟨90,[],[]⟩)))
 (by
  rintro g k i ae h0 bK aQ ⟨hs,hk,he⟩ hn ho
  (rw[<-U3];delta pX kz kA iO kB kg gY kh iy yg F7 ZA tq bP Za Z9 Zw Z5B Yk Z5N Zo UF xv xw xx A1 BY A2 BZ B0 yf A3 A4 A5 A6 A7 vQ vR vS xy E1 Zk Zm Zn Zt jT Z5T Z5S Z5R UQ UR US Z5U jz Ra xA Rb UT)
  have e1:D.nth (g.ops.map dC) i.toNat=dC g.ops[i.toNat]:=ax _ _ _ aQ;rw[e1];simp only[zaa];have hd:g.ops.drop i.toNat=g.ops[i.toNat]::g.ops.drop (i.toNat+1):=za4 aQ;have Q0:=hs.1.1 _ (zaq aQ);have xV:=hs.2;rw[hd] at he;generalize g.ops[i.toNat]=o at he Q0;refine Ao bK (bm ⟨h0,bK⟩ (aq (IE _) ⟨g,k,o,rfl,rfl,Q0,λh=> ?_,λn h=> ?_⟩))
  ·refine ho _ (λh=>by cases h) (.inl ⟨?_,rfl⟩);rw[he,jg,h]
  have:=UY h Q0.1;refine bf (λh=>by omega) λ_=>bm (by omega) (bm (by omega) (hn (k+n) ⟨hs,by omega,?_⟩));rw[he,jg,h])
 (by
  rintro g k i ae hi ⟨hs,hk,he⟩ ho
  (rw[<-U3];delta pX kz kA iO kB kg gY kh iy yg F7 ZA tq bP Za Z9 Zw Z5B Yk Z5N Zo UF xv xw xx A1 BY A2 BZ B0 yf A3 A4 A5 A6 A7 vQ vR vS xy E1 Zk Zm Zn Zt jT Z5T Z5S Z5R UQ UR US Z5U jz Ra xA Rb UT)
  simp only[zaa];refine bf (λh=>by omega) λh=>ho _ (λh=>by cases h) (.inr ⟨?_,rfl⟩);rw[he,zdh];rfl)
 (by
  rintro s ae ⟨g,rfl,hs,h1,h2⟩;refine⟨g,0,rfl,⟨hs,by omega,rfl⟩,?_⟩;rintro x (⟨h,rfl⟩| ⟨h,rfl⟩)
  ·exact h1 h
  exact h2 h)
theorem qf2:FD X 72 IG:=FD.mk (H:=[(104,xu),(105,Dg),(13,IF),(14,qJ)]) (hk:=[(11,ah (aK 72 11) qf1)]) (by kernel_rfl) (.cons UK (.cons qfT (.cons qfU (.cons Ap .nil)))) (.cons qbJ .nil) (by
 intro ps R ae hh;obtain⟨g,rfl,rfl,hs,hp⟩:=hh
 (rw[<-qjh];delta Z7 Z8 E5 Z63 Z64 pX kz kA iO kB kg gY kh iy yg F7 K6 bP Z6g xA Z5Z iP iQ nb PQ Ln Z60 Z61 Z5Y Za Z9 Z5G Zk Zm Zn Zx Z5H JH wT Z1 lX Zo jy)
 have bS:cy g=false->ae (.d (.int .i64 80),[]):=λh=>hp _ (by rw[h];rfl);have my:cy g=true->ae (.d (.int .i64 0),[]):=λh=>hp _ (by rw[h];rfl);have u:=cy.eq_1 g;have no1:TE g=false->cy g=false:=λh=>by rw[u,h];rfl
 have v:=TE.eq_1 g;rw[Lp g.bs (0,0)];simp only[zaa];refine⟨g.s,rfl,rfl,λb hb=>aA (λc1=>bS (no1 ?_)) λc1=>bf (λc2=>bS (no1 ?_)) λc2=>bf (λc3=>bS (no1 ?_)) λc3=>⟨g.deps,rfl,rfl,hs.2.2,λb2 cu=>aA (λc4=>bS (no1 ?_)) λc4=>⟨g.deps,g.s.2,rfl,rfl,hs.2.2,λn hn=>bm (by omega) (zU (λc5=>bS (no1 ?_)) λc5=> ?_)⟩⟩⟩
 ·rw[v,<-hb,show b=false by simpa using c1];rfl
 ·rw[v,zaO (by omega)];simp
 ·rw[v,zaO (by omega)];simp
 ·rw[v,<-cu,show b2=false by simpa using c4];simp
 ·rw[v,<-hn,show(n==g.n-1)=false by simpa using c5];simp
 rw[v,<-hb,show b=true by simpa using c1,<-cu,show b2=true by simpa using c4,<-hn,show(n==g.n-1)=true by simpa using c5,zaY (by omega),zaS,zaS,zaS,zaS] at u;refine aA (λc2=>⟨g.bs,rfl,rfl,λb2 cu=>aA (λc3=>bS ?_) λc3=>⟨g.bs,g.s,rfl,rfl,λc hc=>aA (λc4=>bS ?_) λc4=>bf (λc5=>bS ?_) λc5=>my ?_⟩⟩) λc2=>bf (λc3=>bS ?_) λc3=>bf (λc4=>bS ?_) λc4=>⟨g,rfl,⟨hs,by omega⟩,λh=>bS ?_,λh=>my ?_⟩
 ·rw[zap (by simpa using c2),<-cu,show b2=false by simpa using c3] at u;rw[u];rfl
 ·rw[zap (by simpa using c2),<-hc,show c=false by simpa using c4] at u;rw[u];simp
 ·rw[zap (by simpa using c2)] at u;rw[u,show(g.ops.length==0)=false by rw[zc0];omega];simp
 ·rw[zap (by simpa using c2),<-cu,show b2=true by simpa using c3,<-hc,show c=true by simpa using c4,show(g.ops.length==0)=true by rw[zaW];omega] at u;rw[u];rfl
 ·rw[zan (by simpa using c2),zaO (by omega)] at u;rw[u];rfl
 ·rw[zan (by simpa using c2),zaO (by omega)] at u;rw[u];rfl
 ·rw[zan (by simpa using c2),h] at u;rw[u];simp
 rw[zan (by simpa using c2),h,zaY (by omega)] at u;rw[u];rfl)
end
def U6{α β:Type}(g:FuncId)(ty:TypeId)(enc:α->D)(key:α->β)(lt:β->β->Bool):bg:=λps R ae=> ∃l:List α,ps=[.sl 0 0 l.length,.fn g []]/\R=[(0,⟨0,some 0,.arr ty false (l.map enc)⟩)]/\l.length<=1000000/\
 ∀l':List α,l'.Perm l->l'.Pairwise (λa b=>lt (key b) (key a)=false)->ae (.cH [],[(0,⟨0,some 0,.arr ty false (l'.map enc)⟩)])
theorem U7{α β:Type}(f:α->β)(g:β->α)(hg: ∀x,g (f x)=x){l:List α}{l':List β}(h:l'.Perm (l.map f)): ∃l2:List α,l'=l2.map f/\l2.Perm l:=by
 refine⟨l'.map g,?_,?_⟩
 ·rw[List.map_map];refine(List.map_id l').symm.trans (zbK λb hb=> ?_);obtain⟨a,_,rfl⟩:=zaB.1 (h.mem_iff.1 hb);simp[hg]
 have:=h.map g;rw[List.map_map] at this;rwa [show(g∘f)=id from funext hg,List.map_id] at this
theorem qbK{X:XF}{f g:FuncId}{ty:TypeId}{α β:Type}{enc:α->D}{dec:D->α}{key:α->β}{lt:β->β->Bool}{c:α->α->Int}(ho: ∀cf,FD X f (TT g cf ty))(OM: ∀x,dec (enc x)=x)(hL:Jv lt)
  (hc: ∀x y,c x y<0↔lt (key x) (key y)=true) (FL: ∀x,∃cs,enc x= .agg cs) (hfc: ∀x y,zC PR zN g (enc x) (enc y) (c x y)) (gg: ∃fn,PR.funcs[g]?=some fn/\fn.body.isSome=true/\(fn.name== "runtime.NumGoroutine")=false):
  FD X f (U6 g ty enc key lt):=by
 intro ps R ae hh;obtain⟨l,rfl,rfl,hl,hp⟩:=hh;have bJ: ∀x y,c (dec (enc x)) (dec (enc y))<0↔lt (key x) (key y)=true:=λx y=>by rw[OM,OM];exact hc x y
 refine ho (λa b=>c (dec a) (dec b)) _ _ ae ⟨l.map enc,by rw[zaa],rfl,?_,λfG h1 h2=> ?_⟩
 ·exact {
   fn:=gg
   ag:=λd hd=>by obtain⟨x,_,rfl⟩:=zaB.1 hd;exact FL x
   len:=by simp;omega
   run:=λa ha b hb=>by obtain⟨x,_,rfl⟩:=zaB.1 ha;obtain⟨y,_,rfl⟩:=zaB.1 hb;rw[OM,OM];exact hfc x y
   Jt:=λa ha=>by obtain⟨x,_,rfl⟩:=zaB.1 ha;rw[bJ,hL.Jt];simp
   tr:=λa ha b hb d hd=>by obtain⟨x,_,rfl⟩:=zaB.1 ha;obtain⟨y,_,rfl⟩:=zaB.1 hb;obtain⟨z,_,rfl⟩:=zaB.1 hd;rw[bJ,bJ,bJ];exact hL.tr _ _ _
   ntr:=λa ha b hb d hd=>by obtain⟨x,_,rfl⟩:=zaB.1 ha;obtain⟨y,_,rfl⟩:=zaB.1 hb;obtain⟨z,_,rfl⟩:=zaB.1 hd;rw[bJ,bJ,bJ];intro h1 h2;simpa using hL.ntr (by simpa using h1) (by simpa using h2)}
 obtain⟨l2,rfl,h3⟩:=U7 enc dec OM h1;rw[zck] at h2;exact hp l2 h3 (h2.imp λ{a b} h=>by rw[bJ] at h;simpa using h)
def NJ{α β:Type}(g:FuncId)(ty:TypeId)(enc:α->D)(key:α->β)(lt:β->β->Bool):bg:=λps R ae=> ∃(l:List α) (tl:List D),ps=[.sl 0 0 l.length,.fn g []]/\R=[(0,⟨0,some 0,.arr ty false (l.map enc++tl)⟩)]/\l.length<=1000000/\
 ∀l':List α,l'.Perm l->l'.Pairwise (λa b=>lt (key b) (key a)=false)->ae (.cH [],[(0,⟨0,some 0,.arr ty false (l'.map enc++tl)⟩)])
theorem U8{X:XF}{f g:FuncId}{ty:TypeId}{α β:Type}{enc:α->D}{dec:D->α}{key:α->β}{lt:β->β->Bool}{c:α->α->Int}(ho:FD X f (S2 PR zN ty))(OM: ∀x,dec (enc x)=x)(hL:Jv lt)
  (hc: ∀x y,c x y<0↔lt (key x) (key y)=true) (FL: ∀x,∃cs,enc x= .agg cs) (hfc: ∀x y,zC PR zN g (enc x) (enc y) (c x y)) (gg: ∃fn,PR.funcs[g]?=some fn/\fn.body.isSome=true/\(fn.name== "runtime.NumGoroutine")=false):
  FD X f (NJ g ty enc key lt):=by
 intro ps R ae hh;obtain⟨l,tl,rfl,rfl,hl,hp⟩:=hh;have bJ: ∀x y,c (dec (enc x)) (dec (enc y))<0↔lt (key x) (key y)=true:=λx y=>by rw[OM,OM];exact hc x y
 refine ho _ _ ae ⟨0,g,⟨0,some 0,.arr ty false (l.map enc++tl)⟩,l.map enc,tl,λa b=>c (dec a) (dec b),by rw[zaa],rfl,rfl,?_,λfG h1 h2=> ?_⟩
 ·exact {
   fn:=gg
   ag:=λd hd=>by obtain⟨x,_,rfl⟩:=zaB.1 hd;exact FL x
   len:=by simp;omega
   run:=λa ha b hb=>by obtain⟨x,_,rfl⟩:=zaB.1 ha;obtain⟨y,_,rfl⟩:=zaB.1 hb;rw[OM,OM];exact hfc x y
   Jt:=λa ha=>by obtain⟨x,_,rfl⟩:=zaB.1 ha;rw[bJ,hL.Jt];simp
   tr:=λa ha b hb d hd=>by obtain⟨x,_,rfl⟩:=zaB.1 ha;obtain⟨y,_,rfl⟩:=zaB.1 hb;obtain⟨z,_,rfl⟩:=zaB.1 hd;rw[bJ,bJ,bJ];exact hL.tr _ _ _
   ntr:=λa ha b hb d hd=>by obtain⟨x,_,rfl⟩:=zaB.1 ha;obtain⟨y,_,rfl⟩:=zaB.1 hb;obtain⟨z,_,rfl⟩:=zaB.1 hd;rw[bJ,bJ,bJ];intro h1 h2;simpa using hL.ntr (by simpa using h1) (by simpa using h2)}
 obtain⟨l2,rfl,h3⟩:=U7 enc dec OM h1;rw[zck] at h2;exact hp l2 h3 (h2.imp λ{a b} h=>by rw[bJ] at h;simpa using h)
def cM(U:List ay)(d:D):Option D:=match d with
 | .agg [.int .i64 a,.int .i64 b]=>if U.count (a,b)=0 then none else some (iE (U.count (a,b):Int))
 |_=>none
theorem qdu(U:List ay)(x:ay):cM U (bh x)=if U.count x=0 then none else some (iE (U.count x:Int)):=rfl
theorem E8:cM []=λ_=>none:=by
 funext d;unfold cM;split
 ·simp
 rfl
theorem qK(U:List ay)(x:ay):cJ (cM U (bh x)) (iE 0)=iE (U.count x:Int):=by
 rw[qdu];split
 next h=>rw[h];rfl
 rfl
theorem NK(U:List ay)(x:ay):da (bh x) (iE ((U.count x:Int)+1)) (cM U)=cM (x::U):=by
 funext d;unfold da;cases hd:D.pg (bh x) d with
 |true=>have:=(D.hQ _ _).1 hd;subst this;simp only[zb1];rw[qdu,zcp,zan (by omega)];simp
 |false=>
  have dQ:bh x≠d:=λe=>by rw[(D.hQ _ _).2 e] at hd;cases hd
  simp only[zbq];unfold cM;split
  next a b=>have:x≠(a,b):=λe=>dQ (by rw[e];rfl);rw[List.count_cons_of_ne this]
  rfl
theorem E9(U:List ay)(x:ay)(z:D):(λk'=>bif D.pg (bh x) k' then some (iE ((U.count x:Int)+1)) else da (bh x) z (cM U) k')=cM (x::U):=by rw[<-NK];funext d;unfold da;cases D.pg (bh x) d<;>rfl
theorem PV(k v u:D)(f:D->Option D):da k v (da k u f)=da k v f:=by funext d;unfold da;cases D.pg k d<;>rfl
theorem Fa(U:List ay)(x:ay)(z:D):da (bh x) (.int .i64 ((U.count x:Int)+1)) (da (bh x) z (cM U))=cM (x::U):=by rw[PV];exact NK U x
abbrev pb(z:Bool)(l:List ak):Obj:= .arr 34 z (l.map aR)
abbrev mpS(f:D->Option D)(c:Int):Obj:= .map 30 f c false
def lY(l:List ak):Prop:=l.length<=1000000/\ ∀g∈l,Q9 g
abbrev cnH(l out:List ak)(f:D->Option D)(c i:Int):S:=⟨36,[(3,.sl 0 0 out.length),(4,.mp 1 0),(9,bp l),(10,iD ((l.map aR).length:Int)),(11,iD i)],[(0,⟨0,none,pb false out⟩),(1,⟨0,none,mpS f c⟩)]⟩
def cg(l:List ak):List D:=List.map aR l
def tv(out:List ak):En:=En.mk 0 none (Obj.arr (34:TypeId) false (cg out))
def Rc(out:List ak):Nat×En:=(0,tv out)
def F8(out:List ak):List (Nat×En):=[Rc out]
def gT(l:List ak)(i:Int):D:=D.nth (cg l) (Zt i)
def la(l:List ak)(i:Int):Int:=D.aj (D.ar (gT l i) 1)
def pz(l:List ak)(i:Int):D:=D.int .i64 (la l i)
def pA(l:List ak)(i:Int):D:=D.int .i64 (D.aj (D.ar (gT l i) 0))
def tA(l:List ak)(i:Int):D:=D.agg [pA l i,pz l i]
def Z6I(l:List ak)(i:Int):D:=D.agg [pA l i,D.int .i64 (D.aj (D.ar (gT l i) (0+1)))]
def Z6J(l:List ak)(i:Int)(f:D->Option D)(c:Int):En:=En.mk 0 none (Obj.map 30 (λ(k':D)=>bif D.pg (Z6I l i) k' then some (D.int .i64 (D.aj (cJ (f (Z6I l i)) Z7)+(1:Int))) else da (Z6I l i) (cJ (f (Z6I l i)) Z7) f k') (bif Option.isSome (f (tA l i)) then c else c+(1:Int)) false)
def F9(l:List ak)(i:Int):Int:=D.aj (D.ar (gT l i) 2)
def B2(l:List ak)(i:Int):List D:=[pA l i,pz l i,D.int .i64 (F9 l i),D.sl 1 (D.dS (D.ar (gT l i) 3)),D.int .i64 (D.aj (D.ar (gT l i) 4)),D.int .i64 (D.aj (D.ar (gT l i) 5)),D.sl 18 (D.dS (D.ar (gT l i) 6))]
def dn(out:List ak):Nat:=List.length out
def Z6H(out:List ak)(l:List ak)(i:Int):En:=En.mk 0 none (Obj.arr (34:TypeId) false (List.take (dn out) (cg out)++[D.agg (B2 l i)]))
def NL(out:List ak)(l:List ak)(i:Int):Nat:=dn out+List.length [D.agg (B2 l i)]
def gi(l:List ak):Nat:=List.length (cg l)
def Z6G(out:List ak)(l:List ak)(i:Int):Bool:=Nat.ble (dn out) (gi out)&&aI (NL out l i) 88
def Z6C(l:List ak)(i:Int)(f:D->Option D):D:=cJ (da (tA l i) (D.int .i64 (D.aj (cJ (f (tA l i)) Z7)+(1:Int))) (da (tA l i) (cJ (f (tA l i)) Z7) f) (tA l i)) Z7
def Z6B(f:D->Option D)(l:List ak)(i:Int):Bool:=decide (Z9<=D.aj (cJ (f (tA l i)) Z7)+(1:Int)/\D.aj (cJ (f (tA l i)) Z7)+(1:Int)<=Za)
def B3(f:D->Option D)(c:Int):En:=En.mk 0 none (Obj.map 30 f c false)
def Z6s(i:Int):List (Nat×P):=[(11,P.d (ZA i))]
def Fb(l:List ak):P:=P.d (D.int .i64 (↑(gi l):Int))
def ct(l:List ak):P:=P.d (D.sl 7 (cg l))
def Z6t(l:List ak)(i:Int):List (Nat×P):=(4,P.mp 1 0)::(9,ct l)::(10,Fb l)::Z6s i
def lZ(out:List ak):P:=P.sl 0 0 (dn out)
def Z6n(e:Int)(g:ak):Prop:=e=if cy g=true then(0:Int) else(80:Int)
def Re(l:List ak)(i:Int):List P:=[P.d (D.agg (B2 l i))]
noncomputable def dM(l:List ak)(i:Int):Bool:=cw PR (34:TypeId) (gT l i)
def iC(i:Int)(l:List ak):Bool:=decide ((0:Int)<=i/\i<(↑(gi l):Int))
def nv(i:Int)(l:List ak):Bool:=decide (i<(↑(gi l):Int))
theorem U9(l out:List ak)(f:D->Option D)(c i:Int)(ae:PX×S->Prop):(bif nv i l then ob (iC i l) (ob (dM l i) (∃(g:ak),Re l i=[jz g]/\Zo/\Q9 g/\ ∀(e:Int),Z6n e g->bif e !=(0:Int) then ob (Zw i) (ae (PX.normal,S.mk 36 ((3,lZ out)::Z6t l i) [Rc out,(1,B3 f c)])) else ob (cw PR (3:TypeId) (cJ (f (tA l i)) Z7)) (ob (Z6B f l i) (ob (cw PR (3:TypeId) (Z6C l i f)) (bif D.aj (Z6C l i f)==(1:Int) then ob (Z6G out l i) (ob (Zw i) (ae (PX.normal,S.mk 36 ((3,P.sl 0 0 (NL out l i))::Z6t l i) [(0,Z6H out l i),(1,Z6J l i f c)]))) else ob (Zw i) (ae (PX.normal,S.mk 36 ((3,lZ out)::Z6t l i) [Rc out,(1,Z6J l i f c)]))))))) else ae (PX.exit 0,S.mk 36 [(3,lZ out)] (F8 out)))=(aD [(51,IG)] [] 30 3 (cnH l out f c i)) ae:=by kernel_rfl
def qf3:S->K (PX×S):=λst ae=> ∃l,st=cnH l [] (λ_=>none) 0 0/\lY l/\ ∀m,m=aw l->ae (.exit 0,⟨36,[(3,.sl 0 0 m.length)],[(0,⟨0,none,pb false m⟩)]⟩)
def uD:bg:=λps R ae=> ∃l,ps=[bp l]/\R=[]/\lY l/\ ∀m,m=aw l->ae (.sl 0 0 m.length,[(0,⟨0,none,pb false m⟩)])
def PW:En:=En.mk 0 none (Obj.map 30 (λ(_:D)=>none) (0:Int) false)
def Rf:En:=En.mk 0 none (Obj.arr (34:TypeId) false [])
def Z6M:List (Nat×P):=[(11,P.d Z7)]
def Z6P(au:List ak):S:=S.mk 36 ((3,ZY)::(4,P.mp 1 0)::(9,ct au)::(10,Fb au)::Z6M) [(0,Rf),(1,PW)]
theorem qjj(l:List ak)(ae:P×List (Nat×En)->Prop):(∃(au:List ak),Z6P l=Z6P au/\lY au/\ ∀(m:List ak),m=aw au->ae (lZ m,F8 m))=(aJ [] [(3,ah (aK 30 3) qf3)] 30 [bp l] []) ae:=by kernel_rfl
def Ar(m:List ak)(s:ay):Int:=vP (λg=>g.s==s) m
def Ly:bg:=λps R ae=> ∃m s,ps=[.sl 0 0 m.length,.d (bh s)]/\R=[(0,⟨0,some 0,pb false m⟩)]/\m.length<=1000000/\ ∀i,i=Ar m s->ae (iD i,[(0,⟨0,some 0,pb false m⟩)])
abbrev fdH(m:List ak)(s:ay)(i:Int):S:=⟨20,[(0,.sl 0 0 m.length),(3,.ref 1 0 0),(5,iD i)],[(0,⟨0,some 0,pb false m⟩),(1,⟨0,none,.box 30 [iD s.1,iD s.2]⟩)]⟩
def yh(s:ay):En:=En.mk 0 none (Obj.box (30:TypeId) [P.d (iQ s),P.d (iP s)])
def Lz(m:List ak):Nat×En:=(0,En.mk 0 (some 0) (Obj.arr (34:TypeId) false (cg m)))
def Va(m:List ak):List (Nat×En):=[Lz m]
def pB(m:List ak):Nat×P:=(0,lZ m)
def sT(i:Int)(m:List ak):Bool:=decide (Zt i<gi m)
def l4(m:List ak):Int:=(↑(dn m):Int)
def u9(i:Int)(m:List ak):Bool:=decide ((0:Int)<=i/\i<l4 m)
def Ga(i:Int)(m:List ak):Bool:=decide (i<l4 m)
theorem qdv(m:List ak)(s:ay)(i:Int)(ae:PX×S->Prop):(bif Ga i m then ob (u9 i m) (ob (sT i m) (ob (dM m i) (bif D.aj (D.ar (gT m i) 0)==Prod.fst s&&(la m i==Prod.snd s&&true) then ae (PX.ret,S.mk 20 (pB m::BV i) (Va m)) else ob (Zw i) (ae (PX.normal,S.mk 20 (pB m::ti::ZB i) [Lz m,(1,yh s)]))))) else ae (PX.exit 0,S.mk 20 [pB m] (Va m)))=(aD [] [] 73 2 (fdH m s i)) ae:=by kernel_rfl
def gFd:S->K (PX×S):=λst ae=> ∃m s,st=fdH m s 0/\m.length<=1000000/\(∀i,i=Ar m s->0<=i->ae (.ret,⟨20,[(0,.sl 0 0 m.length),(4,iD i)],[(0,⟨0,some 0,pb false m⟩)]⟩))/\(Ar m s= -1->ae (.exit 0,⟨20,[(0,.sl 0 0 m.length)],[(0,⟨0,some 0,pb false m⟩)]⟩))
def iR(bz:List ak):Prop:=dn bz<=1000000
def Z6Y(bz:List ak)(gR:ay):S:=S.mk 20 (pB bz::ti::ZV) [Lz bz,(1,yh gR)]
theorem qlt(m:List ak)(s:ay)(ae:P×List (Nat×En)->Prop):(∃(bz:List ak) (gR:ay),Z6Y m s=Z6Y bz gR/\iR bz/\(∀(i:Int),i=Ar bz gR->(0:Int)<=i->ae (Zm i,Va bz))/\(Ar bz gR=(-1:Int)->ae (Ze,Va bz)))=(aJ [] [(2,ah (aK 73 2) gFd)] 73 [.sl 0 0 m.length,.d (bh s)] [(0,⟨0,some 0,pb false m⟩)]) ae:=by kernel_rfl
abbrev qbL(l out:List ak)(i:Int):S:=⟨35,[(0,bp l),(3,.sl 0 0 out.length),(4,iD i)],[(0,⟨0,none,pb false out⟩)]⟩
def de(l:List ak):Nat×P:=(0,ct l)
def IJ(l:List ak)(i:Int):List P:=[P.d (tA l i)]
theorem qdw(l out:List ak)(i:Int)(ae:PX×S->Prop):(bif nv i l then ob (iC i l) (ob (dM l i) (∃(g:ak),Re l i=[jz g]/\Zo/\Q9 g/\ ∀(e:Int),Z6n e g->bif e==(0:Int) then ob (iC i l) (ob (dM l i) (∃(m:List ak) (s:ay),lZ out::IJ l i=lZ m::jy s/\Va out=Va m/\iR m/\ ∀(bb:Int),bb=Ar m s->bif Yk bb then ob (iC i l) (ob (dM l i) (ob (Nat.ble (dn out) (gi m)&&aI (NL out l i) 88) (ob (Zw i) (ae (PX.normal,S.mk 35 (de l::(3,P.sl 0 0 (NL out l i))::tq i) [(0,En.mk 0 none (Obj.arr (34:TypeId) false (List.take (dn out) (cg m)++[D.agg (B2 l i)])))]))))) else ob (Zw i) (ae (PX.normal,S.mk 35 (de l::(3,lZ out)::tq i) (F8 m))))) else ob (Zw i) (ae (PX.normal,S.mk 35 (de l::(3,lZ out)::tq i) (F8 out))))) else ae (PX.exit 0,S.mk 35 [(3,lZ out)] (F8 out)))=(aD [(72,IG),(73,Ly)] [] 40 3 (qbL l out i)) ae:=by kernel_rfl
def qf4:S->K (PX×S):=λst ae=> ∃l,st=qbL l [] 0/\lY l/\ ∀m,m=aw l->ae (.exit 0,⟨35,[(3,.sl 0 0 m.length)],[(0,⟨0,none,pb false m⟩)]⟩)
def Z72:List (Nat×En):=[(0,Rf)]
theorem qjk(l:List ak)(ae:P×List (Nat×En)->Prop):(∃(au:List ak),S.mk 35 (de l::T6) Z72=S.mk 35 (de au::T6) Z72/\lY au/\ ∀(m:List ak),m=aw au->ae (lZ m,F8 m))=(aJ [] [(3,ah (aK 40 3) qf4)] 40 [bp l] []) ae:=by kernel_rfl
theorem ao{p:Prop}{i:Decidable p}{A:Prop}(h1:p)(h2:A):cond (@decide p i) A False:=by rw[zaY h1];exact h2
theorem cr{p:Prop}{i:Decidable p}{A B:Prop}(h1:p->A)(h2: ¬p->B):cond (@decide p i) A B:=by
 by_cases h:p
 ·rw[zaY h];exact h1 h
 rw[zaO h];exact h2 h
theorem bn{p:Prop}{i:Decidable p}{A B:Prop}(h1:p)(h2:A):cond (@decide p i) A B:=by rw[zaY h1];exact h2
theorem jU{p:Prop}{i:Decidable p}{A B:Prop}(h1: ¬p)(h2:B):cond (@decide p i) A B:=by rw[zaO h1];exact h2
theorem A9{a b:Int}{A B:Prop}(h1:a=b->A)(h2:a≠b->B):cond (a==b) A B:=by
 by_cases h:a=b
 ·rw[show(a==b)=true by simpa using h];exact h1 h
 rw[show(a==b)=false by simpa using h];exact h2 h
theorem Gb:PR.follows .mixedOrders=true:=by kernel_rfl
theorem Fc{o:List ak}{g:ak}(h:cy g=false):kO o g=o:=by unfold kO;rw[zan];rw[h];simp
theorem As{o:List ak}{g:ak}(h:(o.any λx=>x.s==g.s)=true):kO o g=o:=by unfold kO;rw[zan];rw[h];simp
theorem Au{o:List ak}{g:ak}(h:cy g=true)(h2:(o.any λx=>x.s==g.s)=false):kO o g=o++[g]:=by unfold kO;rw[zap ⟨h,h2⟩]
theorem qL{l:List ak}{i:Nat}(h:i<l.length):aw (l.take (i+1))=kO (aw (l.take i)) l[i]:=by rw[zae h,H7]
theorem cd{m n:Nat}(h:m<=1000000)(hn:n<=1000):aI (m+1) n=true:=bN (zaE (Nat.mul_le_mul (by omega:m+1<=1000001) hn) (by omega)) (by omega)
theorem bO{α:Type}(f:α->D)(l:List α)(x:α):List.take l.length (l.map f)++[f x]=(l++[x]).map f:=by rw[zal (by simp),zau];rfl
def xC(U:List ay)(o:List ak):Prop:= ∀x,x∈U↔(o.any λy=>y.s==x)=true
theorem xC.nil:xC [] []:=λx=>by simp
theorem xC.had{U:List ay}{o:List ak}{x:ay}(h:xC U o)(hx:x∈U):xC (x::U) o:=λy=>by
 rw[zav,h y];constructor
 ·rintro(rfl |h2)
  ·exact(h _).1 hx
  exact h2
 exact .inr
theorem xC.new{U:List ay}{o:List ak}{g:ak}(h:xC U o):xC (g.s::U) (o++[g]):=λy=>by
 rw[zav,h y,zcu,zbh];simp only[zdv,List.any_nil,zb3,zaW];constructor
 ·rintro(rfl |h2)
  ·exact .inr rfl
  exact .inl h2
 rintro(h2 |rfl)
 ·exact .inr h2
 exact .inl rfl
theorem B4(n:Int):cw PR 3 (.int .i64 n)=true:=by kernel_rfl
section
variable{X:XF}
theorem qbM:LD X 30 3 (ah (aK 30 3) qf3):=LD.idx (H:=[(51,IG)]) (hk:=[]) (by kernel_rfl) (by kernel_rfl) (.cons qdt .nil) .nil
 (A:=List ak) (B:=List ak×List ay×Int) (λl b i=>cnH l b.1 (cM b.2.1) b.2.2 i) (λl=>l.length) (λl i b=>lY l/\b.1=aw (l.take i)/\xC b.2.1 b.1/\b.2.1.length<=i)
 (λl x=>x=(.exit 0,⟨36,[(3,.sl 0 0 (aw l).length)],[(0,⟨0,none,pb false (aw l)⟩)]⟩))
 (by
  rintro l ⟨o,U,c⟩ i ae h0 bK aQ ⟨hs,rfl,hU,PY⟩ hn ho
  try dsimp only at*
  (rw[<-U9];delta cg tv Rc F8 Zt gT la pz pA tA Z7 Z6I Z6J F9 B2 dn Z6H NL gi Z6G Z6C Za Z9 Z6B B3 ZA Z6s Fb ct Z6t lZ Zw Z6n Zo kz kA iO kB kg gY kh iy jz Re dM iC nv)
  have e1:D.nth (l.map aR) i.toNat=aR l[i.toNat]:=ax _ _ _ aQ;rw[e1];simp only[cnH,zaa] at hn⊢;have hsg:=hs.2 _ (zaq aQ);have uF:=qL aQ;have k9:=dP (l.take i.toNat);rw[zas] at k9;generalize l[i.toNat]=g at uF hsg;have rv:=hs.1;have t1:D.agg [D.int .i64 (D.aj (D.ar (aR g) 0)),D.int .i64 (D.aj (D.ar (aR g) 1))]=bh g.s:=rfl;have v1: ∀n:Int,D.aj (iE n)=n:=λ_=>rfl;have g0:cJ (cM U (bh g.s)) (.int .i64 0)=iE (U.count g.s:Int):=qK U g.s;have GQ:=zb4 (a:=g.s) (l:=U);have u2:=λz=>Fa U g.s z;have u3:=λz=>E9 U g.s z;have g1:cJ (cM (g.s::U) (bh g.s)) (.int .i64 0)= .int .i64 ((U.count g.s:Int)+1):=by have:=qK (g.s::U) g.s;rw[zcp] at this;exact this
  have BO:(U.count g.s:Int)=0↔ ¬g.s∈U:=by rw[<-zc7];omega
  have hcb:0<=(U.count g.s:Int)/\(U.count g.s:Int)<=1000000:=by have:=hs.1;omega
  generalize (U.count g.s:Int)=cn at g0 u2 u3 g1 BO hcb;rw[t1,g0];simp only[v1];refine Ao bK (bm ⟨h0,bK⟩ (aq (fh _) ⟨g,rfl,rfl,hsg,λe he=>zU (λh1=>bm (by omega) (hn (aw (l.take i.toNat),U,c) ⟨hs,?_,hU,zc9 PY⟩)) λh1=> ?_⟩))
  ·rw[uF,Fc];cases hg:cy g with
   |false=>rfl
   |true=>rw[hg] at he;exact absurd he h1
  have hg:cy g=true:=by
   cases hg:cy g with
   |true=>rfl
   |false=>rw[hg,zan (by simp)] at he;omega
  have t2:D.agg [D.int .i64 (D.aj (D.ar (aR g) 0)),D.int .i64 (D.aj (D.ar (aR g) 1)),D.int .i64 (D.aj (D.ar (aR g) 2)),D.sl 1 (D.dS (D.ar (aR g) 3)),D.int .i64 (D.aj (D.ar (aR g) 4)),D.int .i64 (D.aj (D.ar (aR g) 5)),D.sl 18 (D.dS (D.ar (aR g) 6))]=aR g:=rfl;refine aq (B4 _) (ao (by omega) ?_);rw[u2,g1,t2,u3];refine aq (B4 _) ?_;simp only[v1,zao,zat,zaF];refine(A9 (λh2=>aq ?_ (ao (by omega) ?_)) λh2=>ao (by omega) (hn (aw (l.take i.toNat),g.s::U,_) ⟨hs,?_,hU.had ?_,zca PY⟩))
  ·rw[zab];exact⟨by simp,cd (by omega) (by omega)⟩
  ·have hx: ¬g.s∈U:=BO.1 (by omega);have uX:((aw (l.take i.toNat)).any λx=>x.s==g.s)=false:=by rw[<-zaQ,<-hU g.s];exact hx
   have:=λc':Int=>hn (aw (l.take i.toNat)++[g],g.s::U,c') ⟨hs,by rw[uF,Au hg uX],hU.new,zca PY⟩;rw[bO];simp only[zah,zao,zat,zaF] at this;exact this _
  ·have hx:g.s∈U:=zaN λh=>by have:=BO.2 h;omega
   rw[uF,As ((hU g.s).1 hx)]
  exact zaN λh=>by have:=BO.2 h;omega)
 (by
  rintro l ⟨o,U,c⟩ i ae hi ⟨hs,rfl,hU,PY⟩ ho
  try dsimp only at*
  (rw[<-U9];delta cg tv Rc F8 Zt gT la pz pA tA Z7 Z6I Z6J F9 B2 dn Z6H NL gi Z6G Z6C Za Z9 Z6B B3 ZA Z6s Fb ct Z6t lZ Zw Z6n Zo kz kA iO kB kg gY kh iy jz Re dM iC nv)
  simp only[zaa];refine bf (λh=>by omega) λh=>ho _ (λh=>by cases h) ?_;rw[zaj])
 (by rintro s ae ⟨l,rfl,hs,hp⟩;refine⟨l,([],[],0),by rw[E8],⟨hs,rfl,xC.nil,by simp⟩,?_⟩;rintro x rfl;exact hp _ rfl)
theorem NM:FD X 30 uD:=FD.mk (H:=[]) (hk:=[(3,ah (aK 30 3) qf3)]) (by kernel_rfl) .nil (.cons qbM .nil) (by
 intro ps R ae hh;obtain⟨l,rfl,rfl,hs,hp⟩:=hh
 (rw[<-qjj];delta cg tv Rc F8 dn lZ PW Rf Z7 Z6M gi Fb ct ZY Z6P)
 exact⟨l,rfl,hs,λm hm=>hp m hm⟩)
theorem qf5:LD X 73 2 (ah (aK 73 2) gFd):=LD.find (H:=[]) (hk:=[]) (by kernel_rfl) (by kernel_rfl) .nil .nil
 (A:=List ak×ay) (λa k=>fdH a.1 a.2 k) (λa=>a.1) (λa _ g=>g.s==a.2) (λa=>a.1.length<=1000000)
 (λa i=>(.ret,⟨20,[(0,.sl 0 0 a.1.length),(4,iD i)],[(0,⟨0,some 0,pb false a.1⟩)]⟩)) (λa=>(.exit 0,⟨20,[(0,.sl 0 0 a.1.length)],[(0,⟨0,some 0,pb false a.1⟩)]⟩)) (λ_ _ h=>by cases h) (λ_ h=>by cases h)
 (by
  rintro⟨m,s⟩ i ae hi hC h0 bK ht hn
  try dsimp only at*
  (rw[<-qdv];delta iP iQ yh cg Lz ZA ZB iN ti Za Z9 Zw Va Zk Zm og BV dn lZ pB Zt gT la dM gi sT l4 u9 Ga)
  have e1:D.nth (m.map aR) i.toNat=aR m[i.toNat]:=ax _ _ _ hi;rw[e1];refine bn bK (ao ⟨h0,bK⟩ (ao (by simpa using hi) (aq (fh _) ?_)));rw[show(D.aj (D.ar (aR m[i.toNat]) 0)==s.1&&(D.aj (D.ar (aR m[i.toNat]) 1)==s.2&&true))=(m[i.toNat].s==s) from Lp m[i.toNat].s s];exact aA (λh=>ht h) λh=>ao (by omega) (hn h))
 (by
  rintro⟨m,s⟩ i ae hC hi hp
  try dsimp only at*
  (rw[<-qdv];delta iP iQ yh cg Lz ZA ZB iN ti Za Z9 Zw Va Zk Zm og BV dn lZ pB Zt gT la dM gi sT l4 u9 Ga)
  exact cr (λh=>by omega) λh=>hp)
 (by
  rintro st ae ⟨m,s,rfl,hl,h1,h2⟩;refine⟨(m,s),rfl,hl,λi hi h0 ht hb=>h1 i ?_ h0,λh=>h2 ?_⟩
  ·rw[Ar,Ix hi ht hb];omega
  exact NF h)
theorem qbN:FD X 73 Ly:=FD.mk (H:=[]) (hk:=[(2,ah (aK 73 2) gFd)]) (by kernel_rfl) .nil (.cons qf5 .nil) (by
 intro ps R ae hh;obtain⟨m,s,rfl,rfl,hm,hp⟩:=hh
 (rw[<-qlt];delta Ze cg Lz Va Zk Zm dn iR iP iQ yh Z7 ZV iN ti lZ pB Z6Y)
 exact⟨m,s,rfl,hm,λi hi _=>hp i hi,λh=>hp _ h.symm⟩)
theorem qbO:LD X 40 3 (ah (aK 40 3) qf4):=LD.idx (H:=[(72,IG),(73,Ly)]) (hk:=[]) (by kernel_rfl) (by kernel_rfl) (.cons qf2 (.cons qbN .nil)) .nil
 (A:=List ak) (B:=List ak) (λl o i=>qbL l o i) (λl=>l.length) (λl i o=>lY l/\o=aw (l.take i))
 (λl x=>x=(.exit 0,⟨35,[(3,.sl 0 0 (aw l).length)],[(0,⟨0,none,pb false (aw l)⟩)]⟩))
 (by
  rintro l o i ae h0 bK aQ ⟨hs,rfl⟩ hn ho
  try dsimp only at*
  (rw[<-qdw];delta cg tv Rc F8 Zt gT F9 la pz pA B2 ZA tq ct de Za Z9 Zw dn NL gi Yk iR Lz Va iP iQ nb jy tA IJ lZ Z6n Zo kz kA iO kB kg gY kh iy jz Re dM iC nv)
  have e1:D.nth (l.map aR) i.toNat=aR l[i.toNat]:=ax _ _ _ aQ;rw[e1];simp only[zaa,zao,zat,zaF];have hsg:=hs.2 _ (zaq aQ);have uF:=qL aQ;have k9:=dP (l.take i.toNat);rw[zas] at k9;generalize l[i.toNat]=g at uF hsg;have rv:=hs.1;have t2:D.agg [D.int .i64 (D.aj (D.ar (aR g) 0)),D.int .i64 (D.aj (D.ar (aR g) 1)),D.int .i64 (D.aj (D.ar (aR g) 2)),D.sl 1 (D.dS (D.ar (aR g) 3)),D.int .i64 (D.aj (D.ar (aR g) 4)),D.int .i64 (D.aj (D.ar (aR g) 5)),D.sl 18 (D.dS (D.ar (aR g) 6))]=aR g:=rfl;refine bn bK (ao ⟨h0,bK⟩ (aq (fh _) ⟨g,rfl,rfl,hsg,λe he=>A9 (λh1=>ao ⟨h0,bK⟩ (aq (fh _) ⟨aw (l.take i.toNat),g.s,rfl,rfl,by omega,λk hk=>cr (λh2=>ao ⟨h0,bK⟩ (aq (fh _) (aq ?_ (ao (by omega) ?_)))) λh2=>ao (by omega) (hn _ ⟨hs,?_⟩)⟩)) λh1=>ao (by omega) (hn _ ⟨hs,?_⟩)⟩))
  ·rw[zab];exact⟨by simp,cd (by omega) (by omega)⟩
  ·have hg:cy g=true:=by
    cases hg:cy g with
    |true=>rfl
    |false=>rw[hg,zan (by simp)] at he;omega
   have uX:((aw (l.take i.toNat)).any λx=>x.s==g.s)=false:=(Am _ _).1 (by rw[hk] at h2;exact h2);have:=hn (aw (l.take i.toNat)++[g]) ⟨hs,by rw[uF,Au hg uX]⟩;rw[t2,bO];simp only[qbL,zah,zao,zat,zaF] at this;exact this
  ·rw[uF,As];rw[<-zcG];intro h;exact h2 (by rw[hk];exact(Am _ _).2 h)
  rw[uF,Fc];cases hg:cy g with
  |false=>rfl
  |true=>rw[hg,zap rfl] at he;exact absurd he h1)
 (by
  rintro l o i ae hi ⟨hs,rfl⟩ ho
  try dsimp only at*
  (rw[<-qdw];delta cg tv Rc F8 Zt gT F9 la pz pA B2 ZA tq ct de Za Z9 Zw dn NL gi Yk iR Lz Va iP iQ nb jy tA IJ lZ Z6n Zo kz kA iO kB kg gY kh iy jz Re dM iC nv)
  simp only[zaa];refine cr (λh=>by omega) λh=>ho _ (λh=>by cases h) ?_;rw[zaj])
 (by rintro s ae ⟨l,rfl,hs,hp⟩;refine⟨l,[],rfl,⟨hs,rfl⟩,?_⟩;rintro x rfl;exact hp _ rfl)
theorem IK:FD X 40 uD:=FD.mk (H:=[]) (hk:=[(3,ah (aK 40 3) qf4)]) (by kernel_rfl) .nil (.cons qbO .nil) (by
 intro ps R ae hh;obtain⟨l,rfl,rfl,hs,hp⟩:=hh
 (rw[<-qjk];delta cg tv Rc F8 dn lZ Rf Z72 Z7 K6 ZY T6 ct de)
 exact⟨l,rfl,hs,λm hm=>hp m hm⟩)
end
abbrev Av:=S×(PX×S)->K (PX×S×(PX×S))
noncomputable def NN(H HN:List (FuncId×bg))(f id:Nat):S->(PX×S->Prop)->Prop:=dy PR (runK PR zN q8 H 60 60) HN (aK f) [] (q8 f) (nL PR f id).asg
noncomputable def Fe(H HN:List (FuncId×bg))(f id:Nat):S->(PX×S->Prop)->Prop:=dy PR (runK PR zN q8 H 60 60) HN (aK f) [] (q8 f) (nL PR f id).body
noncomputable def yi(H HN:List (FuncId×bg))(hk:FuncId->Nat->List (Nat×Av))(f id base:Nat)(keep:Option (List Nat×List Nat))(s:S):K (PX×S):=
 KG PR (runK PR zN q8 H 60 60) (nL PR f id).ps.toList base keep (NN H HN f id) (Fe H HN f id) hk q8 (nL PR f id).g s
noncomputable def mK(H HN:List (FuncId×bg))(f id base:Nat)(keep:Option (List Nat×List Nat))(yt fi Ba:Nat)(y:S×(PX×S)):K (PX×S×(PX×S)):=
 qaw (eJ PR (runK PR zN q8 H 60 60) yt (kJ (nL PR f id).ps.toList base keep (NN H HN f id) (Fe H HN f id)) [] (q8 fi) (bw PR fi Ba)) (aK fi Ba) y
def LY(w0:World)(f id yt fi Ba:Nat)(h:Av):Prop:= ∀(B:oR PR) (Ti:Tg),Setup B Ti yt w0 (nL PR f id).ps (nL PR f id).asg (nL PR f id).body-> ∀y ae,h y ae->q7 B Ti (.loop (bw PR fi Ba)) y.2 y.1 ae
noncomputable def vU(f id:Nat):Bool:=(aN (nL PR f id).asg).isEmpty&&(aN (nL PR f id).body).isEmpty&&(bY (nL PR f id).asg).isEmpty&&(bY (nL PR f id).body).isEmpty&&cc (q8 f) (nL PR f id).asg&&cc (q8 f) (nL PR f id).body
theorem IL{X:XF}{w0:World}(hX:dw PR w0 X.cf){H HN:List (FuncId×bg)}(hdr:PR.follows .mixedOrders=true)(hH:HD X H)(pq:Ng w0 HN){f id:Nat}(xg:vU f id=true)(val:Nat->Value)(lo:Nat)(s:S)(ae:PX×S->Prop)(hp:NN H HN f id s ae):
  TW PR ⟨val,w0,lo,false⟩ (nL PR f id).asg s ae:=by
 simp only[vU,zab] at xg;exact eo (kp:=MT X) (T:=⟨val,w0,lo,false⟩) pq.get (Ae hH) hX hdr (kp1:=aK f) _ xg.1.2 (λd hd=>by rw[zbW.1 xg.1.1.1.1.1] at hd;cases hd) (λx hx=>by rw[zbW.1 xg.1.1.1.2] at hx;cases hx) _ _ hp
theorem Di{X:XF}{w0:World}(hX:dw PR w0 X.cf){H HN:List (FuncId×bg)}(hdr:PR.follows .mixedOrders=true)(hH:HD X H)(pq:Ng w0 HN){f id:Nat}(xg:vU f id=true)(val:Nat->Value)(lo:Nat)(s:S)(ae:PX×S->Prop)(hp:Fe H HN f id s ae):
  TW PR ⟨val,w0,lo,false⟩ (nL PR f id).body s ae:=by
 simp only[vU,zab] at xg;exact eo (kp:=MT X) (T:=⟨val,w0,lo,false⟩) pq.get (Ae hH) hX hdr (kp1:=aK f) _ xg.2 (λd hd=>by rw[zbW.1 xg.1.1.1.1.2] at hd;cases hd) (λx hx=>by rw[zbW.1 xg.1.1.2] at hx;cases hx) _ _ hp
theorem FN.mk{X:XF}{w0:World}(hX:dw PR w0 X.cf){H HN:List (FuncId×bg)}(hdr:PR.follows .mixedOrders=true)(hH:HD X H)(pq:Ng w0 HN){f id base:Nat}{keep:Option (List Nat×List Nat)}(xg:vU f id=true){hk:FuncId->Nat->List (Nat×Av)}
  (hu: ∀fi yt h Ba,lk (hk fi yt) Ba=some h->uniq PR fi=true/\LY w0 f id yt fi Ba h) {g:S->K (PX×S)} (hg: ∀s ae,g s ae->yi H HN hk f id base keep s ae):FN w0 f id g:=by
 intro val lo s ae hp;refine TW.rangeFunc (kp:=MT X) (T:=⟨val,w0,lo,true⟩) (Ae hH) hX hdr rfl Po (λv l s ae hp=>IL hX hdr hH pq xg v l s ae hp) (λv l s ae hp=>Di hX hdr hH pq xg v l s ae hp) (hk:=hk) ?_ (hg s ae hp);intro fi fn c gg hc d hd yt h hh B Ti hs y ae hp;obtain⟨h1,h2⟩:=hu fi yt h _ hh;have e:bw PR fi (Code.s9 d)=d:=by unfold uniq at h1;rw[gg] at h1;simp only[hc] at h1;unfold bw;rw[gg];simp only[hc,jJ _ (dJ _ h1) hd,zb9]
 have:=h2 B Ti hs y ae hp;rwa [e] at this
theorem LY.par{X:XF}{w0:World}(hX:dw PR w0 X.cf){H HN:List (FuncId×bg)}(hdr:PR.follows .mixedOrders=true)(hH:HD X H)(pq:Ng w0 HN){f id base:Nat}{keep:Option (List Nat×List Nat)}{yt fi Ba:Nat}(xg:vU f id=true)(hc:cc (q8 fi) (bw PR fi Ba)=true)(tf:(aN (bw PR fi Ba)).isEmpty=true){g:Av}
  {A B:Type} (hd:A->B->S×(PX×S)) (Inv:A->B->Prop) (mu:A->B->Nat) (Out:A->PX×S×(PX×S)->Prop)
  (hr: ∀a b,Inv a b->mK H HN f id base keep yt fi Ba (hd a b) (KI (mu a b) (λm y=> ∃b',y=hd a b'/\Inv a b'/\m=mu a b') (Out a)))
  (hg: ∀y ae,g y ae-> ∃a b,y=hd a b/\Inv a b/\ ∀x,Out a x->ae x):LY w0 f id yt fi Ba (ep (aK fi Ba) g):=by
 intro Be Ti hs y ae hp;unfold ep at hp;cases hh:cz (aK fi Ba) y.1 with
 |none=>simp only[hh] at hp
 |some s0=>
  simp only[hh] at hp;obtain⟨a,b,h0,h1,h2⟩:=hg (s0,y.2) ae hp;refine q7.mono (q7.loop (keep:=aK fi Ba) (I:=λm s c=> ∃b',(s,c)=hd a b'/\Inv a b'/\m=mu a b') (O:=Out a) (hs.w0i.trans hs.w0b.symm) (λn s c hI=> ?_) hh ⟨b,h0,h1,rfl⟩) h2;obtain⟨b',h3,h4,rfl⟩:=hI;have:=hr a b' h4;rw[<-h3] at this;unfold mK at this;refine q7.mono (gP (B:=Be) (Ti:=Ti) (kp:=MT X) (Ae hH) (by rw[hs.w0i];exact hX) hdr (hs.w0i.trans hs.w0b.symm) hs.RN hs.yv hs.lp (asg:=NN H HN f id) (body:=Fe H HN f id) (base:=base) (keep:=keep)
   (λv l s ae hp=>by rw[hs.w0b,hs.asg];exact IL hX hdr hH pq xg v l s ae hp) (λv l s ae hp=>by rw[hs.w0b,hs.body];exact Di hX hdr hH pq xg v l s ae hp)
   (bw PR fi Ba) hc (λd hd=>by rw[zbW.1 tf] at hd;cases hd) (s,c) _ (by rw[hs.ps];exact this)) ?_
  rintro⟨e,s1,c1⟩ hx;cases e with
  |normal=>obtain⟨s2,h4,m,h5,h6⟩:=KW.dR (p:=λs2=>cz (aK fi Ba) s1=some s2) (λ_ h=>h) _ hx;exact⟨s2,h4,m,h5,h6⟩
  |exit i=>obtain⟨s2,h4,h5⟩:=KW.dR (p:=λs2=>dG (aK fi Ba) s1=some s2) (λ_ h=>h) _ hx;exact⟨s2,h4,h5⟩
  |ret=>obtain⟨s2,h4,h5⟩:=KW.dR (p:=λs2=>dG (aK fi Ba) s1=some s2) (λ_ h=>h) _ hx;exact⟨s2,h4,h5⟩
variable{X:XF}
theorem LN.idx{w0:World}(hX:dw PR w0 X.cf){H HN:List (FuncId×bg)}{hk:List (Nat×(S->K (PX×S)))}{f id:Nat}{g:S->K (PX×S)}(hdr:PR.follows .mixedOrders=true)(hu:uniq PR f=true)(hc:cc (q8 f) (bw PR f id)=true)(hnr:(bY (bw PR f id)).isEmpty=true)(hH:HD X H)(pq:Ng w0 HN)(hl:LNs w0 f hk)
  {A B:Type} (hd:A->B->Int->S) (len:A->Nat) (Inv:A->Nat->B->Prop) (Out:A->PX×S->Prop)
  (hr: ∀a b (k:Int) ae,0<=k->k<len a->k.toNat<len a->Inv a k.toNat b->(∀b',Inv a (k.toNat+1) b'->ae (.normal,hd a b' (k+1)))->(∀x,x.1≠ .normal->Out a x->ae x)->fb H HN hk f id (hd a b k) ae)
  (hx: ∀a b (k:Int) ae,k=len a->Inv a (len a) b->(∀x,x.1≠ .normal->Out a x->ae x)->fb H HN hk f id (hd a b k) ae)
  (hg: ∀s ae,g s ae-> ∃a b,s=hd a b 0/\Inv a 0 b/\ ∀x,Out a x->ae x):LN w0 f id (ah (aK f id) g):=
 LN.par hX hdr hu hc hnr hH pq hl (A:=A) (B:=B×Int) (λa b=>hd a b.1 b.2) (λa b=>0<=b.2/\b.2.toNat<=len a/\Inv a b.2.toNat b.1) (λa b=>(len a-b.2).toNat) Out
  (by
   rintro a ⟨b,k⟩ ⟨h1,h2,h3⟩;dsimp only at*
   have aT: ∀x:PX×S,x.1≠ .normal->Out a x->roundPost ((len a-k).toNat) (λm s=> ∃b':B×Int,s=hd a b'.1 b'.2/\(0<=b'.2/\b'.2.toNat<=len a/\Inv a b'.2.toNat b'.1)/\m=(len a-b'.2).toNat) (Out a) x:=by
    rintro⟨e,s⟩ dQ hx;cases e with
    |normal=>exact absurd rfl dQ
    |exit i=>exact hx
    |ret=>exact hx
   by_cases hk:k<len a
   ·refine hr a b k _ h1 hk (by omega) h3 (λb' hb=> ?_) aT;exact⟨((len a:Int)-(k+1)).toNat,by omega,(b',k+1),rfl,⟨by show 0<=k+1;omega,by show(k+1).toNat<=len a;omega,by show Inv a (k+1).toNat b';rw[show(k+1).toNat=k.toNat+1 by omega];exact hb⟩,rfl⟩
   have e:k=len a:=by omega
   refine hx a b k _ e ?_ aT;have:k.toNat=len a:=by omega
   rwa [this] at h3)
  (by intro s ae hp;obtain⟨a,b,h1,h2,h3⟩:=hg s ae hp;exact⟨a,(b,0),h1,⟨zbF _,by simp,h2⟩,h3⟩)
theorem sU{α:Type}(lt:α->α->Bool)(l:List α)(a:α):cm lt (l++[a])=cD lt (cm lt l) a:=by simp[cm]
theorem jN{α:Type}(lt:α->α->Bool)(o:List α)(a:α):(cD lt o a).length=o.length+1:=by rw[(gS o a).length_eq];simp
theorem lb{α:Type}(lt:α->α->Bool)(l:List α):(cm lt l).length=l.length:=(bU l).length_eq
def wZ{α:Type}(o:List α)(k:Nat)(x y:α):List α:=(o.set k y).set (k-1) x
theorem PZ{α:Type}(o:List α)(k:Nat)(x y:α):(wZ o k x y).length=o.length:=by simp[wZ]
theorem jj{α:Type}(f:α->D)(o:List α)(k:Nat)(x y:α):(((o.map f).set k (f y)).set (k-1) (f x))=(wZ o k x y).map f:=by simp[wZ,zcd]
theorem Vb{α:Type}(pre o6:List α)(x y:α):wZ (pre++[y]++x::o6) (pre.length+1) x y=pre++x::(y::o6):=by unfold wZ;have e:pre++[y]++x::o6=(pre++[y])++x::o6:=rfl;rw[show(pre++[y]++x::o6).set (pre.length+1) y=pre++[y]++y::o6 by rw[zcU _ _ (by simp)];simp];rw[zaM,zcU _ _ (by simp)];simp
variable{X:XF}
theorem LD.ins{H:List (FuncId×bg)}{hk:List (Nat×(S->K (PX×S)))}{f id:Nat}{g:S->K (PX×S)}(hu:uniq PR f=true)(hc:cc (q8 f) (bw PR f id)=true)(hH:HD X H)(hl:Tc X f hk)
  {A α:Type} (hd:A->List α->Int->S) (lt:α->α->Bool) (N:A->Nat) (C:A->Prop) (ex:A->List α->PX×S) (dQ: ∀a o,(ex a o).1≠ .normal)
  (hr: ∀a o (k:Int) ae,C a->0<=k->o.length=N a->N a<=1000001->(du:k.toNat<o.length)->(k=0->ae (ex a o))->(0<k->lt o[k.toNat] (o[k.toNat-1]'(by omega))=false->ae (ex a o))->
   (0<k->lt o[k.toNat] (o[k.toNat-1]'(by omega))=true->ae (.normal,hd a (wZ o k.toNat o[k.toNat] (o[k.toNat-1]'(by omega))) (k-1)))->aD H hk f id (hd a o k) ae)
  (hg: ∀s ae,g s ae-> ∃(a:A) (o:List α) (x:α) (k:Int),s=hd a (o++[x]) k/\k=o.length/\C a/\(o.length+1=N a/\o.length<=1000000)/\ae (ex a (cD lt o x))):LD X f id (ah (aK f id) g):=
 LD.par hu hc hH hl (A:=A×List α×α) (B:=List α×List α×Int) (λa b=>hd a.1 (b.1++a.2.2::b.2.1) b.2.2)
  (λa b=>(C a.1/\b.1.length+b.2.1.length+1=N a.1)/\b.2.2=b.1.length/\b.1.length+b.2.1.length<=1000000/\(oY lt a.2.2 b.1.reverse).reverse++b.2.1=cD lt a.2.1 a.2.2) (λ_ b=>b.1.length) (λa x=>x=ex a.1 (cD lt a.2.1 a.2.2))
  (by
   rintro⟨a,o,x⟩ ⟨pre,o6,k⟩ ⟨⟨h1,hN⟩,h2,h3,h4⟩;dsimp only at*
   have aT: ∀y,y=ex a (cD lt o x)->roundPost pre.length (λm s=> ∃b':List α×List α×Int,s=hd a (b'.1++x::b'.2.1) b'.2.2/\((C a/\b'.1.length+b'.2.1.length+1=N a)/\b'.2.2=b'.1.length/\b'.1.length+b'.2.1.length<=1000000/\(oY lt x b'.1.reverse).reverse++b'.2.1=cD lt o x)/\m=b'.1.length) (λy=>y=ex a (cD lt o x)) y:=by
    rintro⟨e,s⟩ he;have hn:=dQ a (cD lt o x);rw[<-he] at hn;cases e with
    |normal=>exact absurd rfl hn
    |exit i=>exact he
    |ret=>exact he
   have du:k.toNat=pre.length:=by omega
   have hlen:(pre++x::o6).length=pre.length+o6.length+1:=by simp;omega
   have hx:(pre++x::o6)[k.toNat]'(by omega)=x:=by simp[du]
   refine hr a (pre++x::o6) k _ h1 (by omega) (by omega) (by omega) (by omega) (λhz=>aT _ ?_) (λhp bJ=>aT _ ?_) λhp bJ=> ?_
   ·have:pre=[]:=zaA (by omega);subst this;rw[<-h4];simp[oY]
   ·obtain⟨p,y,rfl⟩: ∃p y,pre=p++[y]:=by
     rcases zcT pre with h | ⟨p,y,h⟩
     ·subst h;simp at h2;omega
     exact⟨p,y,by simpa using h⟩
    have hy:(p++[y]++x::o6)[k.toNat-1]'(by omega)=y:=by simp[du]
    rw[hx,hy] at bJ;rw[<-h4];simp[oY,bJ]
   obtain⟨p,y,rfl⟩: ∃p y,pre=p++[y]:=by
    rcases zcT pre with h | ⟨p,y,h⟩
    ·subst h;simp at h2;omega
    exact⟨p,y,by simpa using h⟩
   have hy:(p++[y]++x::o6)[k.toNat-1]'(by omega)=y:=by simp[du]
   have hsw:wZ (p++[y]++x::o6) k.toNat x y=p++x::(y::o6):=by rw[du,zah];exact Vb p o6 x y
   have HG:(p++[y]).length=p.length+1:=by simp
   rw[hx,hy] at bJ⊢;refine⟨p.length,by omega,(p,y::o6,k-1),by rw[hsw],⟨⟨h1,by show p.length+(y::o6).length+1=N a;simp only[zao];omega⟩,by show k-1=(p.length:Int);omega,by show p.length+(y::o6).length<=1000000;simp only[zao];omega,?_⟩,rfl⟩;show(oY lt x p.reverse).reverse++y::o6=cD lt o x;rw[<-h4];simp[oY,bJ])
  (by intro s ae hp;obtain⟨a,o,x,k,h1,h2,h3,⟨h6,h4⟩,h5⟩:=hg s ae hp;refine⟨(a,o,x),(o,[],k),h1,⟨⟨h3,by simpa using h6⟩,h2,by simpa using h4,by simp[cD]⟩,?_⟩;rintro y rfl;exact h5)
def bM(h:Hd):D:= .agg [iE h.1.1,iE h.1.2,iE h.2.1,iE h.2.2]
abbrev arH(z:Bool)(l:List Hd):Obj:= .arr 132 z (l.map bM)
abbrev xD(z:Bool)(l:List Hd):Obj:= .arr 139 z (l.map bM)
abbrev Aw(l:List Hd):P:= .d (.sl 4 (l.map bM))
abbrev xE(l:List Hd):P:=eS (l.map (·.1))
abbrev xF(l:List Hd):P:=eS (l.map (·.2))
abbrev ehH(l out:List Hd)(f:D->Option D)(c i:Int):S:=⟨50,[(0,xE l),(1,xF l),(5,.sl 0 0 out.length),(6,.mp 1 0),(14,iD (min (((l.map (·.1)).map bh).length:Int) (((l.map (·.2)).map bh).length:Int))),(15,iD i)],[(0,⟨0,none,arH false out⟩),(1,⟨0,none,mpS f c⟩)]⟩
def Vc(out:List Hd):En:=En.mk 0 none (Obj.arr (132:TypeId) false (List.map bM out))
def fR(out:List Hd):Nat:=List.length out
def rF(out:List Hd):P:=P.sl 0 0 (fR out)
def oq(l:List Hd):List D:=List.map bh (List.map (λ(x:Hd)=>Prod.fst x) l)
def Z77(l:List Hd)(i:Int):D:=D.int .i64 (D.aj (D.ar (D.nth (oq l) (Zt i)) 0))
def Vd(l:List Hd)(i:Int):D:=D.agg [Z77 l i,D.int .i64 (D.aj (D.ar (D.nth (oq l) (Zt i)) 1))]
def Z7h(l:List Hd)(i:Int):D:=D.agg [Z77 l i,D.int .i64 (D.aj (D.ar (D.nth (oq l) (Zt i)) (0+1)))]
def Z7i(l:List Hd)(i:Int)(f:D->Option D)(c:Int):List (Nat×En):=[(1,En.mk 0 none (Obj.map 30 (λ(k':D)=>bif D.pg (Z7h l i) k' then some (D.int .i64 (D.aj (cJ (f (Z7h l i)) Z7)+(1:Int))) else da (Z7h l i) (cJ (f (Z7h l i)) Z7) f k') (bif Option.isSome (f (Vd l i)) then c else c+(1:Int)) false))]
def LA(out:List Hd):List D:=List.take (fR out) (List.map bM out)
def qM(l:List Hd):List D:=List.map bh (List.map (λ(x:Hd)=>Prod.snd x) l)
def Yu(l:List Hd):Int:=min (↑(List.length (oq l)):Int) (↑(List.length (qM l)):Int)
def Z7f(l:List Hd)(i:Int):List (Nat×P):=[(6,P.mp 1 0),(14,P.d (D.int .i64 (Yu l))),(15,P.d (ZA i))]
def NP(l:List Hd):Nat×P:=(1,P.d (D.sl 2 (qM l)))
def NQ(l:List Hd):Nat×P:=(0,P.d (D.sl 2 (oq l)))
def Z7c(l:List Hd)(i:Int):List D:=[D.agg [Z77 l i,D.int .i64 (D.aj (D.ar (D.nth (oq l) (Zt i)) 1)),D.int .i64 (D.aj (D.ar (D.nth (qM l) (Zt i)) 0)),D.int .i64 (D.aj (D.ar (D.nth (qM l) (Zt i)) 1))]]
def xG(out:List Hd):Nat:=List.length (List.map bM out)
def Z79(l:List Hd)(i:Int)(f:D->Option D):D:=cJ (da (Vd l i) (D.int .i64 (D.aj (cJ (f (Vd l i)) Z7)+(1:Int))) (da (Vd l i) (cJ (f (Vd l i)) Z7) f) (Vd l i)) Z7
def Z76(i:Int)(l:List Hd):Bool:=decide ((0:Int)<=i/\i<(↑(List.length (oq l)):Int))
theorem qdx(l out:List Hd)(f:D->Option D)(c i:Int)(ae:PX×S->Prop):(bif decide (i<Yu l) then ob (Z76 i l) (ob (cw PR (30:TypeId) (D.nth (oq l) (Zt i))) (ob (cw PR (3:TypeId) (cJ (f (Vd l i)) Z7)) (ob (decide (Z9<=D.aj (cJ (f (Vd l i)) Z7)+(1:Int)/\D.aj (cJ (f (Vd l i)) Z7)+(1:Int)<=Za)) (ob (Z76 i l) (ob (cw PR (30:TypeId) (D.nth (oq l) (Zt i))) (ob (cw PR (3:TypeId) (Z79 l i f)) (bif D.aj (Z79 l i f)==(1:Int) then ob (Z76 i l) (ob (cw PR (30:TypeId) (D.nth (oq l) (Zt i))) (ob (decide ((0:Int)<=i/\i<(↑(List.length (qM l)):Int))) (ob (cw PR (30:TypeId) (D.nth (qM l) (Zt i))) (ob (Nat.ble (fR out) (xG out)&&aI (fR out+List.length (Z7c l i)) 32) (ob (Zw i) (ae (PX.normal,S.mk 50 (NQ l::NP l::(5,P.sl 0 0 (fR out+List.length (Z7c l i)))::Z7f l i) ((0,En.mk 0 none (Obj.arr (132:TypeId) false (LA out++Z7c l i)))::Z7i l i f c)))))))) else ob (Zw i) (ae (PX.normal,S.mk 50 (NQ l::NP l::(5,rF out)::Z7f l i) ((0,Vc out)::Z7i l i f c)))))))))) else ae (PX.exit 0,S.mk 50 [(5,rF out)] [(0,Vc out)]))=(aD [] [] 68 3 (ehH l out f c i)) ae:=by kernel_rfl
def gEh:S->K (PX×S):=λst ae=> ∃l,st=ehH l [] (λ_=>none) 0 0/\l.length<=1000000/\ ∀m,m=rB l->ae (.exit 0,⟨50,[(5,.sl 0 0 m.length)],[(0,⟨0,none,arH false m⟩)]⟩)
def qlu:bg:=λps R ae=> ∃a b:Hd,ps=[.d (bM a),.d (bM b)]/\R=[]/\ae (iD (pL a.1.1 a.1.2 b.1.1 b.1.2),[])
def Z7m(a:Hd):P:=P.d (D.agg [D.int .i64 (Prod.fst (Prod.fst a)),D.int .i64 (Prod.snd (Prod.fst a))])
theorem qjl(a b:Hd)(ae:P×List (Nat×En)->Prop):(∃(t:Int) (r:Int) (t':Int) (r':Int),[Z7m a,Z7m b]=Zq t r t' r'/\Zo/\ae (P.d (D.int .i64 (pL t r t' r')),[]))=(aJ [(66,vG)] [] 103 [.d (bM a),.d (bM b)] []) ae:=by kernel_rfl
def LB:bg:=U6 103 132 bM (λh:Hd=>h.1) (λa b=>jP a b)
def Z7p(l:List Hd):List (Nat×En):=[(0,En.mk 0 (some 0) (Obj.arr (132:TypeId) false (List.map bM l)))]
def pZ(au:List Hd):Prop:=fR au<=1000000
def Z7n(au:List Hd):S:=S.mk 50 [NQ au,NP au,(5,ZY),(6,P.mp 1 0),(14,P.d (D.int .i64 (Yu au))),(15,P.d Z7)] [(0,En.mk 0 none (Obj.arr (132:TypeId) false [])),(1,PW)]
theorem qlv(l:List Hd)(ae:P×List (Nat×En)->Prop):(∃(au:List Hd),Z7n l=Z7n au/\pZ au/\ ∀(m:List Hd),m=rB au-> ∃(l:List Hd),[rF m,P.fn (103:FuncId) []]=[rF l,P.fn (103:FuncId) []]/\Z7p m=Z7p l/\pZ l/\ ∀(l':List Hd),List.Perm l' l->List.Pairwise (λ(a b:Hd)=>jP (Prod.fst b) (Prod.fst a)=false) l'->ae (rF m,[(0,Vc l')]))=(aJ [(102,LB)] [(3,ah (aK 68 3) gEh)] 68 [xE l,xF l] []) ae:=by kernel_rfl
def Ax:bg:=λps R ae=> ∃l,ps=[xE l,xF l]/\R=[]/\l.length<=1000000/\ ∀m,m=lR l->ae (.sl 0 0 m.length,[(0,⟨0,none,arH false m⟩)])
abbrev er1(l m:List Hd)(x:ay)(f:D->Option D)(c i:Int):S:=⟨59,[(0,xE l),(1,xF l),(5,.ref 0 0 0),(6,.ref 1 0 0),(10,.mp 2 0),(19,.sl 3 0 m.length),(20,iD (m.length:Int)),(21,iD i)],[(0,⟨0,none,.box 30 [iD x.1,iD x.2]⟩),(1,⟨0,none,.box 30 [iD 0,iD 0]⟩),(2,⟨0,none,mpS f c⟩),(3,⟨0,none,arH false m⟩)]⟩
def Bb:En:=En.mk 0 none (Obj.box (30:TypeId) (P.d Z7::rA))
def Ff(x:ay):Nat×En:=(0,yh x)
def Z7E(x:ay)(f:D->Option D)(c:Int):List (Nat×En):=[Ff x,(1,Bb),(2,B3 f c)]
def yj(m:List Hd)(i:Int):D:=D.nth (List.map bM m) (Zt i)
def IP(m:List Hd)(i:Int):Int:=D.aj (D.ar (yj m i) 1)
def Fg(m:List Hd)(i:Int):Int:=D.aj (D.ar (yj m i) 0)
def Z7D(m:List Hd)(i:Int):D:=D.agg [D.int .i64 (Fg m i),D.int .i64 (IP m i)]
def Z7B:Nat:=0+1+1+1
def vV(m:List Hd):Int:=(↑(fR m):Int)
def Ve:Nat×P:=(10,P.mp 2 0)
def Vf:Nat×P:=(6,iN)
def qN:Nat×P:=(5,bP)
def Fh(i:Int)(m:List Hd):Bool:=decide (Zt i<xG m)
def Fj(i:Int)(m:List Hd):Bool:=decide ((0:Int)<=i/\i<vV m)
def Rg(i:Int)(m:List Hd):Bool:=decide (i<vV m)
theorem Vg(l m:List Hd)(x:ay)(f:D->Option D)(c i:Int)(ae:PX×S->Prop):(bif Rg i m then ob (Fj i m) (ob (Fh i m) (ob (cw PR (132:TypeId) (yj m i)) (ob (Zw i) (ae (PX.normal,S.mk 59 [NQ l,NP l,qN,Vf,Ve,(19,P.sl 3 0 (fR m)),(20,P.d (D.int .i64 (vV m))),(21,P.d (ZA i))] [Ff x,(1,Bb),(2,En.mk 0 none (Obj.map 30 (λ(k':D)=>bif D.pg (D.agg [D.int .i64 (Fg m i),D.int .i64 (D.aj (D.ar (yj m i) (0+1)))]) k' then some (D.agg [D.int .i64 (Fg m i),D.int .i64 (D.aj (D.ar (yj m i) (0+1))),D.int .i64 (D.aj (D.ar (yj m i) (0+1+1))),D.int .i64 (D.aj (D.ar (yj m i) Z7B))]) else f k') (bif Option.isSome (f (Z7D m i)) then c else c+(1:Int)) false)),(3,Vc m)]))))) else ae (PX.exit 0,S.mk 59 [NQ l,NP l,qN,Vf,Ve] (Z7E x f c)))=(aD [] [] 37 4 (er1 l m x f c i)) ae:=by kernel_rfl
abbrev qf6(l out:List Hd)(had:Bool)(i k:Int):S:=⟨80,[(0,Aw l),(3,.sl 0 0 out.length),(4,iD i),(5,.d (.bool had)),(6,iD k)],[(0,⟨0,none,xD false out⟩)]⟩
def Z7M(i:Int)(l:List Hd):Bool:=decide ((0:Int)<=i/\i<(↑(xG l):Int))
noncomputable def Dj(out:List Hd)(k:Int):Bool:=cw PR (139:TypeId) (yj out k)
def IQ(out:List Hd):En:=En.mk 0 none (Obj.arr (139:TypeId) false (List.map bM out))
def Bc(out:List Hd):Nat×En:=(0,IQ out)
def xH(out:List Hd):List (Nat×En):=[Bc out]
def p7:Nat×P:=(5,ZW)
def r6(out:List Hd):Nat×P:=(3,rF out)
def Fk(l:List Hd):Nat×P:=(0,P.d (D.sl 4 (List.map bM l)))
theorem Vh(l out:List Hd)(had:Bool)(i k:Int)(ae:PX×S->Prop):(bif Rg k out then bif had then ob (Zw k) (ae (PX.normal,S.mk 80 (Fk l::r6 out::og i::p7::ZL k) (xH out))) else ob (Fj k out) (ob (Fh k out) (ob (Dj out k) (ob (Z7M i l) (ob (Dj l i) (ob (Zw k) (ae (PX.normal,S.mk 80 (Fk l::r6 out::og i::(5,P.d (D.bool (Fg out k==Fg l i&&(IP out k==IP l i&&true))))::ZL k) (xH out)))))))) else ae (PX.exit 2,S.mk 80 [Fk l,r6 out,og i,(5,dV had)] (xH out)))=(aD [] [] 84 7 (qf6 l out had i k)) ae:=by kernel_rfl
abbrev qlw(l out:List Hd)(i k:Int):S:=⟨80,[(0,Aw l),(3,.sl 0 0 out.length),(4,iD i),(7,iD k)],[(0,⟨0,none,xD false out⟩)]⟩
def Z7P(out:List Hd)(k:Int):List D:=[D.int .i64 (Fg out k),D.int .i64 (IP out k),D.int .i64 (D.aj (D.ar (yj out k) 2)),D.int .i64 (D.aj (D.ar (yj out k) 3))]
def Z7O(out:List Hd)(k:Int):D:=D.nth (List.map bM out) (Zc k)
def Z7Q(out:List Hd)(k:Int):List D:=List.set (List.map bM out) (Zt k) (D.aP (D.agg (Z7P out k)) [D.int .i64 (D.aj (D.ar (Z7O out k) 0)),D.int .i64 (D.aj (D.ar (Z7O out k) 1)),D.int .i64 (D.aj (D.ar (Z7O out k) 2)),D.int .i64 (D.aj (D.ar (Z7O out k) 3))])
def Z7N(k:Int)(out:List Hd):Bool:=decide ((0:Int)<=k-(1:Int)/\k-(1:Int)<vV out)
theorem qf7(l out:List Hd)(i k:Int)(ae:PX×S->Prop):(bif ZF k then ob (Zb k) (ob (Z7N k out) (ob (decide (Zc k<xG out)) (ob (cw PR (139:TypeId) (Z7O out k)) (ob (Fj k out) (ob (Fh k out) (ob (Dj out k) (∃(a:ay) (b:ay),[P.d (D.agg [D.int .i64 (D.aj (D.ar (Z7O out k) 0)),D.int .i64 (D.aj (D.ar (Z7O out k) 1))]),P.d (Z7D out k)]=nb a::jy b/\Zo/\ ∀(r:Bool),r=jP a b->bif r then ob (Zb k) (ob (Zb k) (ob (Z7N k out) (ob (decide (Zc k<xG out)) (ob (cw PR (139:TypeId) (Z7O out k)) (ob (Fj k out) (ob (Fh k out) (ob (Dj out k) (ob (Fj k out) (ob (Fh k out) (ob (Dj out k) (ob (Z7N k out) (ob (decide (Zc k<List.length (Z7Q out k))) (ob (cw PR (139:TypeId) (D.nth (Z7Q out k) (Zc k))) (ob (Zb k) (ae (PX.normal,S.mk 80 [Fk l,r6 out,og i,(7,ZG k)] [(0,En.mk 0 none (Obj.arr (139:TypeId) false (List.set (Z7Q out k) (Zc k) (D.aP (D.agg [D.int .i64 (D.aj (D.ar (D.nth (Z7Q out k) (Zc k)) 0)),D.int .i64 (D.aj (D.ar (D.nth (Z7Q out k) (Zc k)) 1)),D.int .i64 (D.aj (D.ar (D.nth (Z7Q out k) (Zc k)) 2)),D.int .i64 (D.aj (D.ar (D.nth (Z7Q out k) (Zc k)) 3))]) (Z7P out k)))))])))))))))))))))) else ae (PX.exit 4,S.mk 80 (Fk l::r6 out::BV i) (xH out))))))))) else ae (PX.exit 4,S.mk 80 (Fk l::r6 out::BV i) (xH out)))=(aD [(14,qJ)] [] 84 13 (qlw l out i k)) ae:=by kernel_rfl
abbrev Vi(l out:List Hd)(i:Int):S:=⟨80,[(0,Aw l),(3,.sl 0 0 out.length),(4,iD i)],[(0,⟨0,none,xD false out⟩)]⟩
abbrev qbP(l:List ak)(out:List Hd)(i:Int):S:=⟨26,[(0,bp l),(3,.sl 0 0 out.length),(4,iD i)],[(0,⟨0,none,xD false out⟩)]⟩
def Yv(l:List ak)(i:Int):List D:=[D.int .i64 (D.aj (D.ar (gT l i) 4)),D.int .i64 (D.aj (D.ar (gT l i) 5))]
def Z7S(out:List Hd)(l:List ak)(i:Int):Nat:=fR out+List.length [D.agg (pA l i::pz l i::Yv l i)]
theorem Vj(l:List ak)(out:List Hd)(i:Int)(ae:PX×S->Prop):(bif nv i l then ob (iC i l) (ob (dM l i) (ob (iC i l) (ob (dM l i) (ob (Nat.ble (fR out) (xG out)&&aI (Z7S out l i) 32) (ob (Zw i) (ae (PX.normal,S.mk 26 (de l::(3,P.sl 0 0 (Z7S out l i))::tq i) [(0,En.mk 0 none (Obj.arr (139:TypeId) false (LA out++[D.agg (pA l i::pz l i::Yv l i)])))]))))))) else ae (PX.exit 0,S.mk 26 [r6 out] (xH out)))=(aD [] [] 44 3 (qbP l out i)) ae:=by kernel_rfl
theorem qbQ(h:Hd):cw PR 132 (bM h)=true:=by kernel_rfl
theorem vW(h:Hd):cw PR 139 (bM h)=true:=by kernel_rfl
def B5(U:List ay)(o:List Hd):Prop:= ∀x,x∈U↔(o.any λy=>y.1==x)=true
theorem B5.nil:B5 [] []:=λx=>by simp
theorem B5.had{U:List ay}{o:List Hd}{x:ay}(h:B5 U o)(hx:x∈U):B5 (x::U) o:=λy=>by
 rw[zav,h y];constructor
 ·rintro(rfl |h2)
  ·exact(h _).1 hx
  exact h2
 exact .inr
theorem B5.new{U:List ay}{o:List Hd}{g:Hd}(h:B5 U o):B5 (g.1::U) (o++[g]):=λy=>by
 rw[zav,h y,zcu,zbh];simp only[zdv,List.any_nil,zb3,zaW];constructor
 ·rintro(rfl |h2)
  ·exact .inr rfl
  exact .inl h2
 rintro(h2 |rfl)
 ·exact .inr h2
 exact .inl rfl
theorem IU{l:List Hd}{i:Nat}(h:i<l.length):rB (l.take (i+1))=Jw (rB (l.take i)) l[i]:=by rw[zae h];unfold rB;rw[za7];rfl
theorem NR{o:List Hd}{h:Hd}(hx:(o.any λx=>x.1==h.1)=true):Jw o h=o:=by unfold Jw;rw[zap hx]
theorem NS{o:List Hd}{h:Hd}(hx:(o.any λx=>x.1==h.1)=false):Jw o h=o++[h]:=by unfold Jw;rw[zan (by rw[hx];simp)]
theorem qjm:FC 103 qlu:=FC.mk (H:=[(66,vG)]) (by kernel_rfl) (.cons qdk .nil) (by
 intro ps R ae hh;obtain⟨a,b,rfl,rfl,hp⟩:=hh
 (rw[<-qjl];delta Zo Zk Zl Zq Z7m)
 exact⟨_,_,_,_,rfl,rfl,hp⟩)
def qlx:D->Hd
 | .agg [.int .i64 a,.int .i64 b,.int .i64 c,.int .i64 d]=>((a,b),(c,d))
 |_=>((0,0),(0,0))
section
variable{X:XF}
theorem qbR:FD X 102 LB:=qbK (dec:=qlx) (c:=λa b=>pL a.1.1 a.1.2 b.1.1 b.1.2)
 (λcf=>FD.tX Tryz.func102 (by kernel_rfl) (by kernel_rfl) λps R ae h=>KD (EP h)) (λ_=>rfl) iM (λx y=>(E2 x.1 y.1).lt) (λ_=>⟨_,rfl⟩)
 (λx y=>FC.qiy qjm ⟨x,y,rfl,rfl,rfl⟩) ⟨_,Tryz.func103,by kernel_rfl,by kernel_rfl⟩
theorem qf8:LD X 68 3 (ah (aK 68 3) gEh):=LD.idx (H:=[]) (hk:=[]) (by kernel_rfl) (by kernel_rfl) .nil .nil
 (A:=List Hd) (B:=List Hd×List ay×Int) (λl b i=>ehH l b.1 (cM b.2.1) b.2.2 i) (λl=>l.length) (λl i b=>l.length<=1000000/\b.1=rB (l.take i)/\B5 b.2.1 b.1/\b.2.1.length<=i)
 (λl x=>x=(.exit 0,⟨50,[(5,.sl 0 0 (rB l).length)],[(0,⟨0,none,arH false (rB l)⟩)]⟩))
 (by
  rintro l ⟨o,U,c⟩ i ae h0 bK aQ ⟨rv,rfl,hU,PY⟩ hn ho;dsimp only at*
  (rw[<-qdx];delta Vc fR rF Zt oq Z77 Vd Z7 Z7h Z7i LA ZA qM Yu Z7f NP NQ Za Z9 Zw Z7c xG Z79 Z76)
  have e1:D.nth ((l.map (·.1)).map bh) i.toNat=bh l[i.toNat].1:=by rw[ax _ _ _ (by simpa using aQ)];simp
  have e2:D.nth ((l.map (·.2)).map bh) i.toNat=bh l[i.toNat].2:=by rw[ax _ _ _ (by simpa using aQ)];simp
  rw[e1,e2];simp only[ehH,zaa] at hn⊢;have uF:=IU aQ;have k9:=ra (l.take i.toNat);rw[zas] at k9;generalize l[i.toNat]=g at uF;have v1: ∀n:Int,D.aj (iE n)=n:=λ_=>rfl;have t1:D.agg [D.int .i64 (D.aj (D.ar (bh g.1) 0)),D.int .i64 (D.aj (D.ar (bh g.1) 1))]=bh g.1:=rfl;have t2:D.agg [D.int .i64 (D.aj (D.ar (bh g.1) 0)),D.int .i64 (D.aj (D.ar (bh g.1) 1)),D.int .i64 (D.aj (D.ar (bh g.2) 0)),D.int .i64 (D.aj (D.ar (bh g.2) 1))]=bM g:=rfl;have g0:cJ (cM U (bh g.1)) (.int .i64 0)=iE (U.count g.1:Int):=qK U g.1;have GQ:=zb4 (a:=g.1) (l:=U);have u2:=λz=>Fa U g.1 z;have u3:=λz=>E9 U g.1 z;have g1:cJ (cM (g.1::U) (bh g.1)) (.int .i64 0)= .int .i64 ((U.count g.1:Int)+1):=by have:=qK (g.1::U) g.1;rw[zcp] at this;exact this
  have BO:(U.count g.1:Int)=0↔ ¬g.1∈U:=by rw[<-zc7];omega
  have hcb:0<=(U.count g.1:Int)/\(U.count g.1:Int)<=1000000:=by omega
  generalize (U.count g.1:Int)=cn at g0 u2 u3 g1 BO hcb;rw[t1,g0];simp only[v1];refine bn (by omega) (ao ⟨h0,bK⟩ (aq (jM _) (aq (B4 _) (ao (by omega) ?_))));rw[u2,g1,u3];refine ao ⟨h0,bK⟩ (aq (jM _) (aq (B4 _) ?_));simp only[v1,zao,zat,zaF];refine A9 (λh2=> ?_) λh2=>ao (by omega) (hn (rB (l.take i.toNat),g.1::U,_) ⟨rv,?_,hU.had ?_,zca PY⟩)
  ·refine ao ⟨h0,bK⟩ (aq (jM _) (ao ⟨h0,bK⟩ (aq (jM _) (aq ?_ (ao (by omega) ?_)))))
   ·rw[zab];exact⟨by simp,cd (by omega) (by omega)⟩
   have uX:((rB (l.take i.toNat)).any λx=>x.1==g.1)=false:=by rw[<-zaQ,<-hU g.1];exact BO.1 (by omega)
   have:=λc':Int=>hn (rB (l.take i.toNat)++[g],g.1::U,c') ⟨rv,by rw[uF,NS uX],hU.new,zca PY⟩;rw[t2,bO];simp only[zah,zao,zat,zaF] at this;exact this _
  ·have hx:g.1∈U:=zaN λh=>by have:=BO.2 h;omega
   rw[uF,NR ((hU g.1).1 hx)]
  exact zaN λh=>by have:=BO.2 h;omega)
 (by
  rintro l ⟨o,U,c⟩ i ae hi ⟨rv,rfl,hU,PY⟩ ho;dsimp only at*
  (rw[<-qdx];delta Vc fR rF Zt oq Z77 Vd Z7 Z7h Z7i LA ZA qM Yu Z7f NP NQ Za Z9 Zw Z7c xG Z79 Z76)
  simp only[zaa];refine cr (λh=>by omega) λh=>ho _ (λh=>by cases h) ?_;rw[zaj])
 (by rintro s ae ⟨l,rfl,hs,hp⟩;refine⟨l,([],[],0),by rw[E8],⟨hs,rfl,B5.nil,by simp⟩,?_⟩;rintro x rfl;exact hp _ rfl)
theorem NT:FD X 68 Ax:=FD.mk (H:=[(102,LB)]) (hk:=[(3,ah (aK 68 3) gEh)]) (by kernel_rfl) (.cons qbR .nil) (.cons qf8 .nil) (by
 intro ps R ae hh;obtain⟨l,rfl,rfl,hs,hp⟩:=hh
 (rw[<-qlv];delta Vc Z7p fR rF pZ PW Z7 qM oq Yu ZY NP NQ Z7n)
 have hdl:=ra l;refine⟨l,rfl,hs,λm hm=>⟨m,rfl,rfl,by rw[hm];omega,λl' Il hpw=> ?_⟩⟩;subst hm;have e:=M8 Il hpw;rw[<-Il.length_eq,e];exact hp _ rfl)
end
abbrev fBk:Nat:=153
abbrev bkI(hs:List Hd)(i:Int):S:=⟨19,[(0,.mp 0 0),(1,.ref 1 0 0),(3,iD i)],[(0,⟨0,some 1,.ey⟩),(1,⟨0,some 0,.box 128 [.d (.sl 4 (hs.map bM))]⟩)]⟩
abbrev bkE(hs:List Hd):S:=⟨19,[(0,.mp 0 0),(1,.ref 1 0 0)],[(0,⟨0,some 1,.ey⟩),(1,⟨0,some 0,.box 128 [.d (.sl 4 (hs.map bM))]⟩)]⟩
abbrev onC(out:List ay)(n:Nat)(f:D->Option D)(c:Int):S:=
 ⟨37,[(5,.ref 0 0 0),(6,.ref 2 0 0)],[(0,⟨0,none,.box 51 [.sl 1 0 n]⟩),(1,⟨0,none,.arr 30 false (out.map bh)⟩),(2,⟨0,none,.box 98 [.mp 3 0]⟩),(3,⟨0,none,mpS f c⟩)]⟩
abbrev qbS:Option (List Nat×List Nat):=some ([5,6],[5,6])
theorem qbT(hs:List Hd)(out:List ay)(n:Nat)(f:D->Option D)(c:Int)(i:Int)(ae:PX×S×PX×S->Prop):(bif decide (i>=(0:Int)) then bif decide ((0:Int)<=i/\i<(↑(List.length (List.map bM hs)):Int)) then bif cw PR 132 (D.nth (List.map bM hs) (Int.toNat i)) then bif cw PR 3 (cJ (f (D.agg [D.int IntKind.i64 (D.aj (D.ar (D.nth (List.map bM hs) (Int.toNat i)) 0)),D.int IntKind.i64 (D.aj (D.ar (D.nth (List.map bM hs) (Int.toNat i)) 1))])) (D.int IntKind.i64 (0:Int))) then bif decide (D.aj (cJ (f (D.agg [D.int IntKind.i64 (D.aj (D.ar (D.nth (List.map bM hs) (Int.toNat i)) 0)),D.int IntKind.i64 (D.aj (D.ar (D.nth (List.map bM hs) (Int.toNat i)) 1))])) (D.int IntKind.i64 (0:Int)))>(0:Int)) then bif decide ((-9223372036854775808:Int)<=i-(1:Int)/\i-(1:Int)<=(9223372036854775807:Int)) then ae (PX.normal,S.mk 19 [(0,P.mp 0 0),(1,P.ref 1 0 0),(3,P.d (D.int IntKind.i64 (i-(1:Int))))] [(0,En.mk 0 (some 1) Obj.ey),(1,En.mk 0 (some 0) (Obj.box 128 [P.d (D.sl 4 (List.map bM hs))]))],PX.normal,S.mk 37 [(5,P.ref 0 0 0),(6,P.ref 2 0 0)] [(0,En.mk 0 none (Obj.box 51 [P.sl 1 0 n])),(1,En.mk 0 none (Obj.arr 30 false (List.map bh out))),(2,En.mk 0 none (Obj.box 98 [P.mp 3 0])),(3,En.mk 0 none (Obj.map 30 f c false))]) else False else bif Nat.ble n (List.length (List.map bh out))&&aI (n+List.length [D.agg [D.int IntKind.i64 (D.aj (D.ar (D.nth (List.map bM hs) (Int.toNat i)) 0)),D.int IntKind.i64 (D.aj (D.ar (D.nth (List.map bM hs) (Int.toNat i)) 1))]]) 16 then bif cw PR 3 (cJ (f (D.agg [D.int IntKind.i64 (D.aj (D.ar (D.nth (List.map bM hs) (Int.toNat i)) 2)),D.int IntKind.i64 (D.aj (D.ar (D.nth (List.map bM hs) (Int.toNat i)) 3))])) (D.int IntKind.i64 (0:Int))) then bif decide ((-9223372036854775808:Int)<=D.aj (cJ (f (D.agg [D.int IntKind.i64 (D.aj (D.ar (D.nth (List.map bM hs) (Int.toNat i)) 2)),D.int IntKind.i64 (D.aj (D.ar (D.nth (List.map bM hs) (Int.toNat i)) 3))])) (D.int IntKind.i64 (0:Int)))+(1:Int)/\D.aj (cJ (f (D.agg [D.int IntKind.i64 (D.aj (D.ar (D.nth (List.map bM hs) (Int.toNat i)) 2)),D.int IntKind.i64 (D.aj (D.ar (D.nth (List.map bM hs) (Int.toNat i)) 3))])) (D.int IntKind.i64 (0:Int)))+(1:Int)<=(9223372036854775807:Int)) then bif decide ((-9223372036854775808:Int)<=i-(1:Int)/\i-(1:Int)<=(9223372036854775807:Int)) then ae (PX.normal,S.mk 19 [(0,P.mp 0 0),(1,P.ref 1 0 0),(3,P.d (D.int IntKind.i64 (i-(1:Int))))] [(0,En.mk 0 (some 1) Obj.ey),(1,En.mk 0 (some 0) (Obj.box 128 [P.d (D.sl 4 (List.map bM hs))]))],PX.normal,S.mk 37 [(5,P.ref 0 0 0),(6,P.ref 2 0 0)] [(0,En.mk 0 none (Obj.box 51 [P.sl 1 0 (n+List.length [D.agg [D.int IntKind.i64 (D.aj (D.ar (D.nth (List.map bM hs) (Int.toNat i)) 0)),D.int IntKind.i64 (D.aj (D.ar (D.nth (List.map bM hs) (Int.toNat i)) 1))]])])),(1,En.mk 0 none (Obj.arr 30 false (List.take n (List.map bh out)++[D.agg [D.int IntKind.i64 (D.aj (D.ar (D.nth (List.map bM hs) (Int.toNat i)) 0)),D.int IntKind.i64 (D.aj (D.ar (D.nth (List.map bM hs) (Int.toNat i)) 1))]]))),(2,En.mk 0 none (Obj.box 98 [P.mp 3 0])),(3,En.mk 0 none (Obj.map 30 (λ(k':D)=>bif D.pg (D.agg [D.int IntKind.i64 (D.aj (D.ar (D.nth (List.map bM hs) (Int.toNat i)) (0+1+1))),D.int IntKind.i64 (D.aj (D.ar (D.nth (List.map bM hs) (Int.toNat i)) (0+1+1+1)))]) k' then some (D.int IntKind.i64 (D.aj (cJ (f (D.agg [D.int IntKind.i64 (D.aj (D.ar (D.nth (List.map bM hs) (Int.toNat i)) (0+1+1))),D.int IntKind.i64 (D.aj (D.ar (D.nth (List.map bM hs) (Int.toNat i)) (0+1+1+1)))])) (D.int IntKind.i64 (0:Int)))+(1:Int))) else da (D.agg [D.int IntKind.i64 (D.aj (D.ar (D.nth (List.map bM hs) (Int.toNat i)) (0+1+1))),D.int IntKind.i64 (D.aj (D.ar (D.nth (List.map bM hs) (Int.toNat i)) (0+1+1+1)))]) (cJ (f (D.agg [D.int IntKind.i64 (D.aj (D.ar (D.nth (List.map bM hs) (Int.toNat i)) (0+1+1))),D.int IntKind.i64 (D.aj (D.ar (D.nth (List.map bM hs) (Int.toNat i)) (0+1+1+1)))])) (D.int IntKind.i64 (0:Int))) f k') (bif Option.isSome (f (D.agg [D.int IntKind.i64 (D.aj (D.ar (D.nth (List.map bM hs) (Int.toNat i)) 2)),D.int IntKind.i64 (D.aj (D.ar (D.nth (List.map bM hs) (Int.toNat i)) 3))])) then c else c+(1:Int)) false))]) else False else False else False else False else False else False else False else ae (PX.exit 0,S.mk 19 [(0,P.mp 0 0),(1,P.ref 1 0 0)] [(0,En.mk 0 (some 1) Obj.ey),(1,En.mk 0 (some 0) (Obj.box 128 [P.d (D.sl 4 (List.map bM hs))]))],PX.normal,S.mk 37 [(5,P.ref 0 0 0),(6,P.ref 2 0 0)] [(0,En.mk 0 none (Obj.box 51 [P.sl 1 0 n])),(1,En.mk 0 none (Obj.arr 30 false (List.map bh out))),(2,En.mk 0 none (Obj.box 98 [P.mp 3 0])),(3,En.mk 0 none (Obj.map 30 f c false))]))=(mK [] [] 94 4 2000000 qbS 1 fBk 1 (bkI hs i,(.normal,onC out n f c))) ae:=by kernel_rfl
def Dk(l:List Hd):List Hd:=x7 l.reverse []
theorem Vk(h:Hd)(l:List Hd):Dk (h::l)=x6 (Dk l) h:=by simp[Dk,x7]
theorem NU(l:List Hd):(Dk l).length<=l.length:=by simpa [Dk] using uk l.reverse []
theorem qjn(l:List Hd):AW l=((Dk (lR l)).map (·.1)).reverse:=rfl
def jO(l:List Hd):List ay:=(l.map (·.2)).reverse
theorem Vl(l:List Hd):(jO l).length=l.length:=by simp[jO]
theorem P0(l:List Hd)(h:Hd):jO (l++[h])=h.2::jO l:=by simp[jO]
theorem Vm(l:List Hd)(x:ay):x∈jO l↔(l.any λy=>y.2==x)=true:=by simp[jO,zbo]
def gOn:Av:=λy ae=> ∃hs:List Hd,hs.length<=1000000/\(∃i:Int,i=(hs.length:Int)-1/\y=(bkI hs i,(.normal,onC [] 0 (λ_=>none) 0)))/\
 ∀c o f,o=Dk hs->f=cM (jO o)->ae (.exit 0,bkE hs,(.normal,onC (o.map (·.1)) o.length f c))
section
variable{X:XF}{w0:World}(hX:dw PR w0 X.cf)
include hX
theorem qly:LY w0 94 4 1 fBk 1 (ep (aK fBk 1) gOn):=LY.par hX (H:=[]) (HN:=[]) (base:=2000000) (keep:=qbS) Gb .nil .nil (by kernel_rfl) (by kernel_rfl) (by kernel_rfl)
 (A:=List Hd) (B:=Nat×Int×Int)
 (λhs b=>(bkI hs b.2.1,(.normal,onC ((Dk (hs.drop b.1)).map (·.1)) (Dk (hs.drop b.1)).length (cM (jO (Dk (hs.drop b.1)))) b.2.2)))
 (λhs b=>hs.length<=1000000/\b.1<=hs.length/\b.2.1=(b.1:Int)-1)
 (λ_ b=>b.1)
 (λhs x=> ∃c,x=(.exit 0,bkE hs,(.normal,onC ((Dk hs).map (·.1)) (Dk hs).length (cM (jO (Dk hs))) c)))
 (by
  rintro hs ⟨k,i,c⟩ ⟨hm,hk,hi⟩;dsimp only at*
  rw[<-qbT];cases k with
  |zero=>refine jU (by omega) ?_;exact⟨c,rfl⟩
  |succ k=>
   have bJ:k<hs.length:=by omega
   have hik:i.toNat=k:=by omega
   have hl:=NU (hs.drop (k+1));have hd:hs.drop k=hs[k]::hs.drop (k+1):=za4 bJ;have hdl:(hs.drop (k+1)).length<=1000000:=by simp;omega
   have e1:D.nth (hs.map bM) i.toNat=bM hs[k]:=by rw[hik];exact ax _ _ _ bJ
   rw[e1];have ho:Dk (hs.drop k)=x6 (Dk (hs.drop (k+1))) hs[k]:=by rw[hd,Vk]
   generalize hs[k]=h at ho;generalize Dk (hs.drop (k+1))=on at ho hl;have v1: ∀n:Int,D.aj (iE n)=n:=λ_=>rfl;have t1:D.agg [D.int .i64 (D.aj (D.ar (bM h) 0)),D.int .i64 (D.aj (D.ar (bM h) 1))]=bh h.1:=rfl;have t2:D.agg [D.int .i64 (D.aj (D.ar (bM h) 2)),D.int .i64 (D.aj (D.ar (bM h) 3))]=bh h.2:=rfl;have g0:cJ (cM (jO on) (bh h.1)) (.int .i64 0)=iE ((jO on).count h.1:Int):=qK _ _;have g2:cJ (cM (jO on) (bh h.2)) (.int .i64 0)=iE ((jO on).count h.2:Int):=qK _ _;have u3:=λz=>E9 (jO on) h.2 z;have BO:(jO on).count h.1>0↔(on.any λy=>y.2==h.1)=true:=by rw[<-Vm];exact List.count_pos_iff
   have c1:=zb4 (a:=h.1) (l:=jO on);have c2:=zb4 (a:=h.2) (l:=jO on);rw[Vl] at c1 c2;have qf9:((jO on).count h.1:Int)>0↔(on.any λy=>y.2==h.1)=true:=by rw[<-BO];omega
   have hcb:0<=((jO on).count h.2:Int)/\((jO on).count h.2:Int)<=1000000:=by omega
   rw[t1,t2,g0,g2,zaa];generalize ((jO on).count h.1:Int)=n1 at qf9⊢;generalize ((jO on).count h.2:Int)=n2 at u3 hcb⊢;simp only[v1,zao,zat,zaF];refine bn (by omega) (ao ⟨by omega,by omega⟩ (aq (qbQ _) (aq (B4 _) (cr (λhu=>ao (by omega) ?_) λhu=>aq ?_ (aq (B4 _) (ao (by omega) (ao (by omega) ?_)))))))
   ·refine⟨k,zcM k,(k,i-1,c),?_,⟨hm,by show k<=hs.length;omega,by show i-1=(k:Int)-1;omega⟩,rfl⟩;rw[ho,x6,zap (qf9.1 hu)]
   ·rw[zab];exact⟨by simp,cd (by omega) (by omega)⟩
   rw[u3];refine⟨k,zcM k,(k,i-1,bif (cM (jO on) (bh h.2)).isSome then c else c+1),?_,⟨hm,by show k<=hs.length;omega,by show i-1=(k:Int)-1;omega⟩,rfl⟩;dsimp only;have e:List.take on.length ((on.map (·.1)).map bh)++[bh h.1]=(on.map (·.1)++[h.1]).map bh:=by rw[zal (by simp),zau];rfl
   rw[e,ho,x6,zan (λh=>hu (qf9.2 h)),P0,zah,show(on++[h]).map (λx:Hd=>x.1)=on.map (·.1)++[h.1] from zau];rfl)
 (by
  rintro y ae ⟨hs,h1,⟨i,hi,rfl⟩,h2⟩;refine⟨hs,(hs.length,i,0),?_,⟨h1,zak _,hi⟩,?_⟩
  ·dsimp only;rw[zdh,show jO (Dk [])=[] from rfl,E8];rfl
  rintro x ⟨c,rfl⟩;exact h2 c _ _ rfl rfl)
end
abbrev onA(l m:List Hd):S:=⟨37,[(0,xE l),(1,xF l),(4,.sl 1004 0 0),(5,.ref 1005 0 0),(6,.ref 1006 0 0),(9,.sl 1009 0 0),(10,.mp 1010 0),(11,xE l),(12,xF l),(13,.sl 1013000 0 m.length),(14,.fn fBk [.ref 1014000 0 0])],
 [(1004,⟨0,none,.arr 30 false []⟩),(1005,⟨0,none,.box 51 [.sl 1009 0 0]⟩),(1006,⟨0,none,.box 98 [.mp 1010 0]⟩),(1009,⟨0,none,.arr 30 false []⟩),(1010,⟨0,none,.map 30 (λ_=>none) 0 false⟩),(1005000,⟨0,none,.arr 30 false []⟩),(1013000,⟨0,none,arH true m⟩),(1014000,⟨0,none,.box 128 [.d (.sl 4 (List.take m.length (m.map bM)))]⟩)]⟩
theorem qbU(l m:List Hd)(ae:PX×S->Prop):(bif decide ((-9223372036854775808:Int)<=(↑(List.length (List.take (List.length m) (List.map bM m))):Int)-(1:Int)/\(↑(List.length (List.take (List.length m) (List.map bM m))):Int)-(1:Int)<=(9223372036854775807:Int)) then∃(hs:List Hd),List.length hs<=1000000/\(∃(i:Int),i=(↑(List.length hs):Int)-(1:Int)/\(S.mk 19 [(0,P.mp 0 0),(1,P.ref 1 0 0),(3,P.d (D.int IntKind.i64 ((↑(List.length (List.take (List.length m) (List.map bM m))):Int)-(1:Int))))] [(0,En.mk 0 (some 1) Obj.ey),(1,En.mk 0 (some 0) (Obj.box 128 [P.d (D.sl 4 (List.take (List.length m) (List.map bM m)))]))],PX.normal,S.mk 37 [(5,P.ref 0 0 0),(6,P.ref 2 0 0)] [(0,En.mk 0 none (Obj.box 51 [P.sl 1 0 0])),(1,En.mk 0 none (Obj.arr 30 false [])),(2,En.mk 0 none (Obj.box 98 [P.mp 3 0])),(3,En.mk 0 none (Obj.map 30 (λ(_:D)=>none) (0:Int) false))])=(S.mk 19 [(0,P.mp 0 0),(1,P.ref 1 0 0),(3,P.d (D.int IntKind.i64 i))] [(0,En.mk 0 (some 1) Obj.ey),(1,En.mk 0 (some 0) (Obj.box 128 [P.d (D.sl 4 (List.map bM hs))]))],PX.normal,S.mk 37 [(5,P.ref 0 0 0),(6,P.ref 2 0 0)] [(0,En.mk 0 none (Obj.box 51 [P.sl 1 0 0])),(1,En.mk 0 none (Obj.arr 30 false [])),(2,En.mk 0 none (Obj.box 98 [P.mp 3 0])),(3,En.mk 0 none (Obj.map 30 (λ(_:D)=>none) (0:Int) false))]))/\ ∀(c:Int) (o:List Hd) (f:D->Option D),o=Dk hs->f=cM (jO o)->ae (PX.normal,S.mk 37 [(5,P.ref 0 0 0),(6,P.ref 2 0 0)] [(0,En.mk 0 none (Obj.box 51 [P.sl 1 0 (List.length o)])),(1,En.mk 0 none (Obj.arr 30 false (List.map bh (List.map (λ(x:Hd)=>Prod.fst x) o)))),(2,En.mk 0 none (Obj.box 98 [P.mp 3 0])),(3,En.mk 0 none (Obj.map 30 f c false))]) else False)=(yi [] [] (λfi yt=>if Nat.beq fi fBk&&Nat.beq yt 1 then [(1,ep (aK fBk 1) gOn)] else []) 94 4 2000000 qbS (onA l m)) ae:=by kernel_rfl
abbrev mL(z:Bool)(l:List ay):Obj:= .arr 30 z (l.map bh)
def qga:S->K (PX×S):=λs ae=> ∃l m,s=onA l m/\m.length<=1000000/\ ∀c o f,o=Dk m->ae (.normal,onC (o.map (·.1)) o.length f c)
def Vn:bg:=λps R ae=> ∃l:List ay,ps=[.sl 0 0 l.length]/\R=[(0,⟨0,some 0,mL false l⟩)]/\l.length<=1000000/\ ∀l',l'=l.reverse->ae (.cH [],[(0,⟨0,some 0,mL false l'⟩)])
abbrev rvH(n:Nat)(l:List ay)(i j:Int):S:=⟨28,[(0,.sl 0 0 n),(2,iD i),(3,iD j)],[(0,⟨0,some 0,mL false l⟩)]⟩
def P9(l:List ay):Nat×En:=(0,En.mk 0 (some 0) (Obj.arr (30:TypeId) false (dq l)))
def Bd(l:List ay):List (Nat×En):=[P9 l]
def Z7U(l:List ay)(i:Int)(j:Int):List D:=List.set (dq l) (Zt i) (D.aP (D.agg (IA l i)) (IA l j))
def NV(j:Int)(l:List ay):Bool:=decide (Zt j<List.length (dq l))
theorem qjo(n:Nat)(l:List ay)(i j:Int)(ae:PX×S->Prop):(bif Zi i j then ob (l8 j n) (ob (NV j l) (ob (u7 l j) (ob (l8 i n) (ob (NV i l) (ob (u7 l i) (ob (l8 i n) (ob (NV i l) (ob (u7 l i) (ob (l8 j n) (ob (decide (Zt j<List.length (Z7U l i j))) (ob (cw PR (30:TypeId) (D.nth (Z7U l i j) (Zt j))) (ob (Zw i) (ob (Zb j) (ae (PX.normal,S.mk 28 [r4 n,(2,P.d (ZA i)),(3,ZG j)] [(0,En.mk 0 (some 0) (Obj.arr (30:TypeId) false (List.set (Z7U l i j) (Zt j) (D.aP (D.agg [D.int .i64 (D.aj (D.ar (D.nth (Z7U l i j) (Zt j)) 0)),D.int .i64 (D.aj (D.ar (D.nth (Z7U l i j) (Zt j)) 1))]) (IA l i)))))]))))))))))))))) else ae (PX.exit 0,S.mk 28 [r4 n] (Bd l)))=(aD [] [] 123 1 (rvH n l i j)) ae:=by kernel_rfl
def gRv:S->K (PX×S):=λst ae=> ∃(l:List ay) (n:Nat) (j:Int),st=rvH n l 0 j/\(n=l.length/\j=(n:Int)-1/\n<=1000000)/\ae (.exit 0,⟨28,[(0,.sl 0 0 n)],[(0,⟨0,some 0,mL false l.reverse⟩)]⟩)
theorem qlz(n:Nat)(l:List ay)(ae:P×List (Nat×En)->Prop):(ob (decide (Z9<=(↑n:Int)-(1:Int)/\(↑n:Int)-(1:Int)<=Za)) (∃(au:List ay) (mf:Nat) (j:Int),S.mk 28 [r4 n,(2,P.d Z7),(3,P.d (D.int .i64 ((↑n:Int)-(1:Int))))] (Bd l)=S.mk 28 (r4 mf::(2,P.d Z7)::ZH j) (Bd au)/\(mf=dv au/\j=(↑mf:Int)-(1:Int)/\mf<=1000000)/\ae (P.cH [],[(0,En.mk 0 (some 0) (Obj.arr (30:TypeId) false (List.map bh (List.reverse au))))])))=(aJ [] [(1,ah (aK 123 1) gRv)] 123 [.sl 0 0 n] [(0,⟨0,some 0,mL false l⟩)]) ae:=by kernel_rfl
def pc(l':List ay):En:=En.mk 0 none (Obj.arr (30:TypeId) false (dq l'))
def Qa(l':List ay):List (Nat×En):=[(0,pc l')]
def kQ(l:List ay):Prop:=dv l<=1000000
def w5(l:List ay):P:=P.sl 0 0 (dv l)
def Z7Z(bz:List Hd):List P:=[P.d (D.sl 4 (LA bz))]
def vX:En:=En.mk 0 none (Obj.arr (30:TypeId) false [])
def Z80(eD:List Hd)(bz:List Hd):S:=S.mk 37 [NQ eD,NP eD,(4,P.sl 1004 0 0),(5,P.ref 1005 0 0),(6,P.ref 1006 0 0),(9,P.sl 1009 0 0),(10,P.mp 1010 0),(11,P.d (D.sl 2 (oq eD))),(12,P.d (D.sl 2 (qM eD))),(13,P.sl 1013000 0 (fR bz)),(14,P.fn (153:FuncId) [P.ref 1014000 0 0])] [(1004,vX),(1005,En.mk 0 none (Obj.box (51:TypeId) [P.sl 1009 0 0])),(1006,En.mk 0 none (Obj.box (98:TypeId) [P.mp 1010 0])),(1009,vX),(1010,PW),(1005000,vX),(1013000,En.mk 0 none (Obj.arr (132:TypeId) true (List.map bM bz))),(1014000,En.mk 0 none (Obj.box (128:TypeId) (Z7Z bz)))]
def Z7X(au:List Hd):List P:=[P.d (D.sl 2 (oq au)),P.d (D.sl 2 (qM au))]
theorem qlA(l:List Hd)(ae:P×List (Nat×En)->Prop):(∃(au:List Hd),Z7X l=Z7X au/\Zo/\pZ au/\ ∀(m:List Hd),m=lR au-> ∃(eD:List Hd) (bz:List Hd),Z80 l m=Z80 eD bz/\pZ bz/\ ∀(_:Int) (o:List Hd) (_:D->Option D),o=Dk bz-> ∃(l:List ay),[rF o]=[w5 l]/\[(0,En.mk 0 (some 0) (Obj.arr (30:TypeId) false (oq o)))]=Bd l/\kQ l/\ ∀(l':List ay),l'=List.reverse l->ae (rF o,Qa l'))=(sM [(68,Ax),(123,Vn)] [] [(500004,qga)] 94 [xE l,xF l] []) ae:=by kernel_rfl
def qgb:bg:=λps R ae=> ∃l,ps=[xE l,xF l]/\R=[]/\l.length<=1000000/\ ∀o,o=AW l->ae (.sl 0 0 o.length,[(0,⟨0,none,mL false o⟩)])
def nU(l:List ay)(i:Nat):List ay:=(List.range l.length).map λp=>if p<i\/l.length-i<=p then l.getD (l.length-1-p) (0,0) else l.getD p (0,0)
theorem iz(l:List ay)(i:Nat):(nU l i).length=l.length:=by simp[nU]
theorem nV(l:List ay)(i p:Nat)(h:p<l.length):(nU l i)[p]'(by rw[iz];exact h)=if p<i\/l.length-i<=p then l.getD (l.length-1-p) (0,0) else l.getD p (0,0):=by simp[nU]
theorem Qb(l:List ay):nU l 0=l:=by apply zb8 (iz l 0);intro p h1 h2;rw[nV l 0 p h2,zan (by omega)];exact dW h2 _
theorem Vo(l:List ay)(i:Nat)(h:l.length<=2*i+1):nU l i=l.reverse:=by
 apply zb8 (by rw[iz];simp);intro p h1 h2;have hp:p<l.length:=by rw[iz] at h1;exact h1
 rw[nV l i p hp,List.getElem_reverse];split
 ·exact dW (by omega) _
 rw[dW hp];congr 1;omega
theorem Qc(l:List ay)(i:Nat)(h:2*i+1<l.length):((nU l i).set i ((nU l i)[l.length-1-i]'(by rw[iz];omega))).set (l.length-1-i) ((nU l i)[i]'(by rw[iz];omega))=nU l (i+1):=by
 apply zb8 (by simp[iz]);intro p h1 h2;have hp:p<l.length:=by rw[iz] at h2;exact h2
 rw[List.getElem_set,List.getElem_set,nV l (i+1) p hp,nV l i p hp,nV l i i (by omega),nV l i (l.length-1-i) (by omega)];by_cases e1:l.length-1-i=p
 ·rw[zap e1,zan (by omega),zap (by omega)];congr 1;omega
 rw[zan e1];by_cases e2:i=p
 ·rw[zap e2,zan (by omega),zap (by omega)];congr 1;omega
 rw[zan e2];by_cases e3:p<i\/l.length-i<=p
 ·rw[zap e3,zap (by omega)]
 rw[zan e3,zan (by omega)]
section
variable{X:XF}
theorem qgc:LD X 123 1 (ah (aK 123 1) gRv):=LD.par (H:=[]) (hk:=[]) (by kernel_rfl) (by kernel_rfl) .nil .nil
 (A:=List ay) (B:=Nat×Int×Int) (λl b=>rvH l.length (nU l b.1) b.2.1 b.2.2) (λl b=>l.length<=1000000/\b.2.1=(b.1:Int)/\b.2.2=(l.length:Int)-1-b.1/\2*b.1<=l.length+1) (λl b=>l.length-b.1)
 (λl x=>x=(.exit 0,⟨28,[(0,.sl 0 0 l.length)],[(0,⟨0,some 0,mL false l.reverse⟩)]⟩))
 (by
  rintro l ⟨k,i,j⟩ ⟨hm,hi,hj,hk⟩;dsimp only at*
  (rw[<-qjo];delta dq P9 Bd Zt Iz F5 IA ZG ZA ZM r4 Za Z9 Zb Zw Z7U u7 NV l8 Zi)
  refine cr (λpH=> ?_) λpH=> ?_
  ·have aQ:i.toNat=k:=by omega
   have Dl:j.toNat=l.length-1-k:=by omega
   have hrl:=iz l k;have ei:D.nth ((nU l k).map bh) i.toNat=bh ((nU l k)[k]'(by omega)):=by rw[aQ];exact ax _ _ _ (by omega)
   have ej:D.nth ((nU l k).map bh) j.toNat=bh ((nU l k)[l.length-1-k]'(by omega)):=by rw[Dl];exact ax _ _ _ (by omega)
   have jv:=Qc l k (by omega);have dQ:k≠l.length-1-k:=by omega
   rw[ei,ej];have hx: ∀y,((nU l k).set k y)[l.length-1-k]'(by simp;omega)=(nU l k)[l.length-1-k]'(by omega):=λy=>by rw[List.getElem_set_ne dQ]
   generalize hxx:(nU l k)[k]'(by omega)=x at*
   generalize hyy:(nU l k)[l.length-1-k]'(by omega)=y at*
   have w1:D.aP (D.agg [D.int .i64 (D.aj (D.ar (bh x) 0)),D.int .i64 (D.aj (D.ar (bh x) 1))]) [D.int .i64 (D.aj (D.ar (bh y) 0)),D.int .i64 (D.aj (D.ar (bh y) 1))]=bh y:=rfl;have w2:D.aP (D.agg [D.int .i64 (D.aj (D.ar (bh y) 0)),D.int .i64 (D.aj (D.ar (bh y) 1))]) [D.int .i64 (D.aj (D.ar (bh x) 0)),D.int .i64 (D.aj (D.ar (bh x) 1))]=bh x:=rfl;have e3:D.nth ((nU l k).map bh |>.set i.toNat (bh y)) j.toNat=bh y:=by rw[<-zcd,aQ,Dl,ax _ _ _ (by simp;omega),hx]
   rw[w1,e3,w2,<-zcd,<-zcd];refine ao ⟨by omega,by omega⟩ (ao (by simp;omega) (aq (jM _) (ao ⟨by omega,by omega⟩ (ao (by simp;omega) (aq (jM _) (ao ⟨by omega,by omega⟩ (ao (by simp;omega) (aq (jM _) (ao ⟨by omega,by omega⟩ (ao (by simp;omega) (aq (jM _) (ao (by omega) (ao (by omega) ?_)))))))))))));refine⟨l.length-(k+1),by omega,(k+1,i+1,j-1),?_,⟨hm,by show i+1=((k+1:Nat):Int);omega,by show j-1=(l.length:Int)-1-((k+1:Nat):Int);omega,by show 2*(k+1)<=l.length+1;omega⟩,rfl⟩;dsimp only;rw[<-jv,aQ,Dl]
  show _=_;rw[Vo l k (by omega)])
 (by rintro s ae ⟨l,n,j,rfl,⟨rfl,hj,hn⟩,hp⟩;refine⟨l,(0,0,j),by dsimp only;rw[Qb],⟨hn,rfl,by show j=_;omega,by show 2*0<=_;omega⟩,?_⟩;rintro x rfl;exact hp)
theorem qgd:FD X 123 Vn:=FD.mk (H:=[]) (hk:=[(1,ah (aK 123 1) gRv)]) (by kernel_rfl) .nil (.cons qgc .nil) (by
 intro ps R ae hh;obtain⟨l,rfl,rfl,hm,hp⟩:=hh
 (rw[<-qlz];delta dv Zk Zm ZH dq P9 Bd Z7 ZM r4 Za Z9)
 exact ao (by omega) ⟨l,l.length,_,rfl,⟨rfl,rfl,hm⟩,hp _ rfl⟩)
end
section
variable{X:XF}{w0:World}(hX:dw PR w0 X.cf)
include hX
theorem qlB:FN w0 94 4 qga:=FN.mk hX (H:=[]) (HN:=[]) Gb .nil .nil (base:=2000000) (keep:=qbS) (by kernel_rfl) (hk:=λfi yt=>if Nat.beq fi fBk&&Nat.beq yt 1 then [(1,ep (aK fBk 1) gOn)] else [])
 (by
  intro fi yt h Ba hl;split at hl
  next hb=>
   rw[zab] at hb;have e1:=zag hb.1;have e2:=zag hb.2;subst e1 e2;unfold lk at hl;split at hl
   next he=>have e3:=zag he;subst e3;cases hl;exact⟨by kernel_rfl,qly hX⟩
   cases hl
  cases hl)
 (by rintro s ae ⟨l,m,rfl,hm,hp⟩;rw[<-qbU];have e:List.take m.length (m.map bM)=m.map bM:=zal (by simp);rw[e,zaa];exact ao (by omega) ⟨m,hm,⟨_,rfl,rfl⟩,λc o f h1 h2=>hp c o f h1⟩)
theorem qlC:ND w0 94 qgb:=ND.mk hX (H:=[(68,Ax),(123,Vn)]) (HN:=[]) (hk:=[(500004,qga)]) Gb (by kernel_rfl) (by kernel_rfl) (.cons NT (.cons qgd .nil)) .nil (.range (qlB hX) .nil) (by
 intro ps R ae hh;obtain⟨l,rfl,rfl,hm,hp⟩:=hh
 (rw[<-qlA];delta dq pc Qa dv kQ P9 Bd oq w5 fR rF LA Z7Z PW vX qM NP NQ Z80 pZ Zo Z7X)
 have hl:=H5 l;refine⟨l,rfl,rfl,hm,λm Yg=>⟨l,m,rfl,by rw[Yg];omega,λc o f ho=>⟨o.map (·.1),by rw[zaa],rfl,?_,λl' R9=> ?_⟩⟩⟩
 ·have:=NU m;rw[zaa,ho];subst Yg;omega
 have e:l'=AW l:=by rw[R9,ho,Yg,qjn]
 have e2:o.length=l'.length:=by rw[R9];simp
 rw[e2];exact hp l' e)
end
def iH(d:aZ):D:= .agg [iE d.1.1,iE d.1.2.1,iE d.1.2.2,iE d.2.1,iE d.2.2]
abbrev jk(l:List aZ):P:= .d (.sl 5 (l.map iH))
abbrev qlD(x:aZ):Obj:= .box 106 [iD x.1.1,iD x.1.2.1,iD x.1.2.2,iD x.2.1,iD x.2.2]
abbrev qjp(z:Bool)(l:List aZ):Obj:= .arr 106 z (l.map iH)
abbrev fS(z:Bool)(l:List av):Obj:= .arr 50 z (l.map bV)
abbrev qO(z:Bool)(l:List Pl):Obj:= .arr 104 z (l.map eB)
abbrev qbV(l:List aZ)(x:aZ)(i:Int):S:=⟨18,[(0,jk l),(3,.ref 0 0 0),(5,iD i)],[(0,⟨0,none,qlD x⟩)]⟩
def Z8b(x:aZ):List (Nat×En):=[(0,En.mk 0 none (Obj.box (106:TypeId) [P.d (D.int .i64 (Prod.fst (Prod.fst x))),P.d (D.int .i64 (Prod.fst (Prod.snd (Prod.fst x)))),P.d (D.int .i64 (Prod.snd (Prod.snd (Prod.fst x)))),P.d (D.int .i64 (Prod.fst (Prod.snd x))),P.d (D.int .i64 (Prod.snd (Prod.snd x)))]))]
def vY(l:List aZ):P:=P.d (D.sl 5 (List.map iH l))
def tB(l:List aZ):Nat×P:=(0,vY l)
def Ay(l:List aZ)(i:Int):D:=D.nth (List.map iH l) (Zt i)
noncomputable def Qd(l:List aZ)(i:Int):Bool:=cw PR (106:TypeId) (Ay l i)
def Qe(i:Int)(l:List aZ):Bool:=decide ((0:Int)<=i/\i<(↑(List.length (List.map iH l)):Int))
def Z85(i:Int)(l:List aZ):Bool:=decide (i<(↑(List.length (List.map iH l)):Int))
theorem qdy(l:List aZ)(x:aZ)(i:Int)(ae:PX×S->Prop):(bif Z85 i l then ob (Qe i l) (ob (Qd l i) (bif D.aj (D.ar (Ay l i) 0)==Prod.fst (Prod.fst x)&&(D.aj (D.ar (Ay l i) 1)==Prod.fst (Prod.snd (Prod.fst x))&&true)&&(D.aj (D.ar (Ay l i) 2)==Prod.snd (Prod.snd (Prod.fst x))&&true)&&(D.aj (D.ar (Ay l i) 3)==Prod.fst (Prod.snd x)&&(D.aj (D.ar (Ay l i) 4)==Prod.snd (Prod.snd x)&&true)&&true) then ae (PX.ret,S.mk 18 Ig []) else ob (Zw i) (ae (PX.normal,S.mk 18 (tB l::cE::ZB i) (Z8b x))))) else ae (PX.exit 0,S.mk 18 [] []))=(aD [] [] 92 2 (qbV l x i)) ae:=by kernel_rfl
def qge:S->K (PX×S):=λs ae=> ∃l x,s=qbV l x 0/\l.length<=1000000/\(x∈l->ae (.ret,⟨18,[(4,.d (.bool true))],[]⟩))/\(x∉l->ae (.exit 0,⟨18,[],[]⟩))
def Dm(au:List aZ):Prop:=List.length au<=1000000
theorem qlE(l:List aZ)(x:aZ)(ae:P×List (Nat×En)->Prop):(∃(au:List aZ) (aX:aZ),S.mk 18 (tB l::cE::ZV) (Z8b x)=S.mk 18 (tB au::cE::ZV) (Z8b aX)/\Dm au/\(aX∈au->ZX ae)/\(¬aX∈au->Z4 ae))=(aJ [] [(2,ah (aK 92 2) qge)] 92 [jk l,.d (iH x)] []) ae:=by kernel_rfl
def Vp:bg:=λps R ae=> ∃l x,ps=[jk l,.d (iH x)]/\R=[]/\l.length<=1000000/\ ∀b,b=decide (x∈l)->ae (.d (.bool b),[])
abbrev qjq(x:ay):Obj:= .box 30 [iD x.1,iD x.2]
abbrev qbW(l:List ay)(x:ay)(i:Int):S:=⟨18,[(0,eS l),(3,.ref 0 0 0),(5,iD i)],[(0,⟨0,none,qjq x⟩)]⟩
def NW(x:ay):List (Nat×En):=[Ff x]
def Qf(l:List ay):Nat×P:=(0,kC l)
def Z8d(l:List ay)(i:Int)(x:ay):Bool:=F5 l i==Prod.fst x&&(Iz l i==Prod.snd x&&true)
theorem qdz(l:List ay)(x:ay)(i:Int)(ae:PX×S->Prop):(bif Q6 i l then ob (NH i l) (ob (u7 l i) (bif Z8d l i x then ae (PX.ret,S.mk 18 (Qf l::Ig) []) else ob (Zw i) (ae (PX.normal,S.mk 18 (Qf l::cE::ZB i) (NW x))))) else ae (PX.exit 0,S.mk 18 [Qf l] []))=(aD [] [] 42 2 (qbW l x i)) ae:=by kernel_rfl
abbrev qbX(l:List ay)(x:ay)(i:Int):S:=⟨18,[(0,.sl 0 0 l.length),(3,.ref 1 0 0),(5,iD i)],[(0,⟨0,some 0,mL false l⟩),(1,⟨0,none,qjq x⟩)]⟩
theorem Vq(l:List ay)(x:ay)(i:Int)(ae:PX×S->Prop):(bif decide (i<(↑(dv l):Int)) then ob (decide ((0:Int)<=i/\i<(↑(dv l):Int))) (ob (NV i l) (ob (u7 l i) (bif Z8d l i x then ae (PX.ret,S.mk 18 ((0,w5 l)::Ig) (Bd l)) else ob (Zw i) (ae (PX.normal,S.mk 18 ((0,w5 l)::ti::ZB i) [P9 l,(1,yh x)]))))) else ae (PX.exit 0,S.mk 18 [(0,w5 l)] (Bd l)))=(aD [] [] 42 2 (qbX l x i)) ae:=by kernel_rfl
def qgf:S->K (PX×S):=λs ae=> ∃l x,s=qbW l x 0/\l.length<=1000000/\(x∈l->ae (.ret,⟨18,[(0,eS l),(4,.d (.bool true))],[]⟩))/\(x∉l->ae (.exit 0,⟨18,[(0,eS l)],[]⟩))
def Vr:S->K (PX×S):=λs ae=> ∃l x,s=qbX l x 0/\l.length<=1000000/\(x∈l->ae (.ret,⟨18,[(0,.sl 0 0 l.length),(4,.d (.bool true))],[(0,⟨0,some 0,mL false l⟩)]⟩))/\(x∉l->ae (.exit 0,⟨18,[(0,.sl 0 0 l.length)],[(0,⟨0,some 0,mL false l⟩)]⟩))
theorem qlF(l:List ay)(x:ay)(ae:P×List (Nat×En)->Prop):(∃(au:List ay) (aX:ay),S.mk 18 (Qf l::cE::ZV) (NW x)=S.mk 18 (Qf au::cE::ZV) (NW aX)/\kQ au/\(aX∈au->ZX ae)/\(¬aX∈au->Z4 ae))=(aJ [] [(2,ah (aK 42 2) qgf)] 42 [eS l,.d (bh x)] []) ae:=by kernel_rfl
def Z8g(au:List ay)(aX:ay):S:=S.mk 18 ((0,w5 au)::ti::ZV) [P9 au,(1,yh aX)]
theorem qjr(l:List ay)(x:ay)(ae:P×List (Nat×En)->Prop):(∃(au:List ay) (aX:ay),Z8g l x=Z8g au aX/\kQ au/\(aX∈au->ae (ZW,Bd au))/\(¬aX∈au->ae (P.d Z3,Bd au)))=(aJ [] [(2,ah (aK 42 2) Vr)] 42 [.sl 0 0 l.length,.d (bh x)] [(0,⟨0,some 0,mL false l⟩)]) ae:=by kernel_rfl
def Vs:bg:=λps R ae=> ∃l x,ps=[eS l,.d (bh x)]/\R=[]/\l.length<=1000000/\ ∀b,b=decide (x∈l)->ae (.d (.bool b),[])
def IV:bg:=λps R ae=> ∃l x,ps=[.sl 0 0 l.length,.d (bh x)]/\R=[(0,⟨0,some 0,mL false l⟩)]/\l.length<=1000000/\ ∀b,b=decide (x∈l)->ae (.d (.bool b),[(0,⟨0,some 0,mL false l⟩)])
abbrev qbY(l:List av)(x:av)(i:Int):S:=⟨18,[(0,.sl 0 0 l.length),(3,.ref 1 0 0),(5,iD i)],[(0,⟨0,some 0,fS false l⟩),(1,⟨0,none,.box 50 [iD x.1,iD x.2.1,iD x.2.2]⟩)]⟩
def Z8k(l:List av):Nat×En:=(0,En.mk 0 (some 0) (Obj.arr (50:TypeId) false (fg l)))
def Vt(l:List av):List (Nat×En):=[Z8k l]
def pC(l:List av):P:=P.sl 0 0 (fF l)
def Vu(i:Int)(l:List av):Bool:=decide (Zt i<oi l)
def vb(l:List av):Int:=(↑(fF l):Int)
theorem Vv(l:List av)(x:av)(i:Int)(ae:PX×S->Prop):(bif decide (i<vb l) then ob (decide ((0:Int)<=i/\i<vb l)) (ob (Vu i l) (ob (vN l i) (bif Z2a l i x then ae (PX.ret,S.mk 18 ((0,pC l)::Ig) (Vt l)) else ob (Zw i) (ae (PX.normal,S.mk 18 ((0,pC l)::ti::ZB i) (Z8k l::TY x)))))) else ae (PX.exit 0,S.mk 18 [(0,pC l)] (Vt l)))=(aD [] [] 91 2 (qbY l x i)) ae:=by kernel_rfl
def Vw:S->K (PX×S):=λs ae=> ∃l x,s=qbY l x 0/\l.length<=1000000/\(x∈l->ae (.ret,⟨18,[(0,.sl 0 0 l.length),(4,.d (.bool true))],[(0,⟨0,some 0,fS false l⟩)]⟩))/\(x∉l->ae (.exit 0,⟨18,[(0,.sl 0 0 l.length)],[(0,⟨0,some 0,fS false l⟩)]⟩))
def Z8m(au:List av)(aX:av):S:=S.mk 18 ((0,pC au)::ti::ZV) (Z8k au::TY aX)
theorem qjs(l:List av)(x:av)(ae:P×List (Nat×En)->Prop):(∃(au:List av) (aX:av),Z8m l x=Z8m au aX/\nu au/\(aX∈au->ae (ZW,Vt au))/\(¬aX∈au->ae (P.d Z3,Vt au)))=(aJ [] [(2,ah (aK 91 2) Vw)] 91 [.sl 0 0 l.length,.d (bV x)] [(0,⟨0,some 0,fS false l⟩)]) ae:=by kernel_rfl
def Vx:bg:=λps R ae=> ∃l x,ps=[.sl 0 0 l.length,.d (bV x)]/\R=[(0,⟨0,some 0,fS false l⟩)]/\l.length<=1000000/\ ∀b,b=decide (x∈l)->ae (.d (.bool b),[(0,⟨0,some 0,fS false l⟩)])
abbrev lvI(h g:List aZ)(o:List av)(n:Nat)(i k:Int):S:=⟨72,[(0,jk h),(1,jk g),(5,.sl 0 0 n),(6,iD i),(8,iD k)],[(0,⟨0,none,fS false o⟩)]⟩
def Bf(o:List av):En:=En.mk 0 none (Obj.arr (50:TypeId) false (fg o))
def r7(o:List av):List (Nat×En):=[(0,Bf o)]
def Bg(i:Int):List (Nat×P):=[ZS i]
def Yw(o:List av)(k:Int):List D:=List.set (fg o) (Zt k) (D.aP (D.agg (Q7 o k)) (Z5l o k))
def Z8r(o:List av)(k:Int):En:=En.mk 0 none (Obj.arr (50:TypeId) false (List.set (Yw o k) (Zc k) (D.aP (D.agg [D.int .i64 (D.aj (D.ar (D.nth (Yw o k) (Zc k)) 0)),D.int .i64 (D.aj (D.ar (D.nth (Yw o k) (Zc k)) 1)),D.int .i64 (D.aj (D.ar (D.nth (Yw o k) (Zc k)) 2))]) (Q7 o k))))
def Z8q(k:Int):List (Nat×P):=[(8,ZG k)]
def yl(g:List aZ):Nat×P:=(1,vY g)
def Z8v(o:List av)(k:Int):List P:=[P.d (D.agg (Q7 o k)),P.d (D.agg (Z5l o k))]
def Z8n(k:Int)(o:List av):Bool:=decide (Zc k<oi o)
theorem qjt(h g:List aZ)(o:List av)(n:Nat)(i k:Int)(ae:PX×S->Prop):(bif ZF k then ob (l8 k n) (ob (Vu k o) (ob (vN o k) (ob (Zb k) (ob (uZ k n) (ob (Z8n k o) (ob (Q8 o k) (∃(t:Int) (r:Int) (bb:Int) (t':Int) (r':Int) (i':Int),Z8v o k=P.d (D.agg (Zk t::Zk r::Zl bb))::AV t' r' i'/\Zo/\bif Ub t r bb t' r' i' then ob (Zb k) (ob (Zb k) (ob (uZ k n) (ob (Z8n k o) (ob (Q8 o k) (ob (l8 k n) (ob (Vu k o) (ob (vN o k) (ob (l8 k n) (ob (Vu k o) (ob (vN o k) (ob (uZ k n) (ob (decide (Zc k<List.length (Yw o k))) (ob (cw PR (50:TypeId) (D.nth (Yw o k) (Zc k))) (ob (Zb k) (ae (PX.normal,S.mk 72 (tB h::yl g::ZN n::ZS i::Z8q k) [(0,Z8r o k)])))))))))))))))) else ae (PX.exit 2,S.mk 72 (tB h::yl g::ZN n::Bg i) (r7 o))))))))) else ae (PX.exit 2,S.mk 72 (tB h::yl g::ZN n::Bg i) (r7 o)))=(aD [(88,gG)] [] 57 9 (lvI h g o n i k)) ae:=by kernel_rfl
abbrev lvH(h g:List aZ)(o:List av)(i:Int):S:=⟨72,[(0,jk h),(1,jk g),(5,.sl 0 0 o.length),(6,iD i)],[(0,⟨0,none,fS false o⟩)]⟩
def qgg:S->K (PX×S):=λst ae=> ∃h g o x n i k,st=lvI h g (o++[x]) n i k/\(k=(o.length:Int)/\n=o.length+1/\o.length<=1000000)/\ ∀o',o'=cD mh o x->ae (.exit 2,lvH h g o' i)
def Z8C(aU:List av)(x:av):En:=En.mk 0 none (Obj.arr (50:TypeId) false (List.map bV (aU++[x])))
def rk(k:Int):Nat×P:=(8,Zm k)
def JJ(k:Int):List (Nat×P):=[rk k]
def Z8y(h:List aZ)(i:Int):D:=D.agg [D.int .i64 (D.aj (D.ar (Ay h i) 0)),D.int .i64 (D.aj (D.ar (Ay h i) 1)),D.int .i64 (D.aj (D.ar (Ay h i) 2))]
def Z8z(o:List av)(h:List aZ)(i:Int):Nat:=fF o+List.length [Z8y h i]
def Z8x(i:Int)(ae:PX×S->Prop)(h:List aZ)(g:List aZ)(o:List av):Prop:=ob (Zw i) (ae (PX.normal,S.mk 72 (tB h::yl g::(5,pC o)::ZL i) (r7 o)))
def Z8D(h:List aZ)(i:Int):List D:=[D.int .i64 (D.aj (D.ar (Ay h i) 3)),D.int .i64 (D.aj (D.ar (Ay h i) 4))]
def Z8E(g:List aZ)(h:List aZ)(i:Int):List P:=[vY g,P.d (D.agg (D.int .i64 (D.aj (D.ar (Ay h i) 0))::D.int .i64 (D.aj (D.ar (Ay h i) 1))::D.int .i64 (D.aj (D.ar (Ay h i) 2))::Z8D h i))]
theorem qdA(h g:List aZ)(o:List av)(i:Int)(ae:PX×S->Prop):(bif Z85 i h then ob (Qe i h) (ob (Qd h i) (ob (Qe i h) (ob (Qd h i) (∃(l:List aZ) (x:aZ),Z8E g h i=[vY l,P.d (D.agg [D.int .i64 (Prod.fst (Prod.fst x)),D.int .i64 (Prod.fst (Prod.snd (Prod.fst x))),D.int .i64 (Prod.snd (Prod.snd (Prod.fst x))),D.int .i64 (Prod.fst (Prod.snd x)),D.int .i64 (Prod.snd (Prod.snd x))])]/\Zo/\Dm l/\ ∀(b:Bool),b=decide (x∈l)->bif b then Z8x i ae h g o else∃(l:List av) (x:av),[pC o,P.d (Z8y h i)]=pC l::e8 x/\Vt o=Vt l/\nu l/\ ∀(b:Bool),b=decide (x∈l)->bif b then ob (Zw i) (ae (PX.normal,S.mk 72 (tB h::yl g::(5,pC o)::ZL i) (r7 l))) else ob (Nat.ble (fF o) (oi l)&&aI (Z8z o h i) 24) (ob (decide (Z9<=(↑(Z8z o h i):Int)-(1:Int)/\(↑(Z8z o h i):Int)-(1:Int)<=Za)) (∃(nw:List aZ) (bq:List aZ) (aU:List av) (x:av) (n:Nat) (bb:Int) (k:Int),S.mk 72 [tB h,yl g,(5,P.sl 0 0 (Z8z o h i)),ZS i,(8,P.d (D.int .i64 ((↑(Z8z o h i):Int)-(1:Int))))] [(0,En.mk 0 none (Obj.arr (50:TypeId) false (List.take (fF o) (fg l)++[Z8y h i])))]=S.mk 72 (tB nw::yl bq::ZN n::ZS bb::JJ k) [(0,Z8C aU x)]/\(k=vb aU/\n=fF aU+1/\nu aU)/\ ∀(o':List av),o'=cD mh aU x->Z8x bb ae nw bq o')))))) else ae (PX.exit 0,S.mk 72 [(5,pC o)] (r7 o)))=(aD [(92,Vp),(91,Vx)] [(9,ah (aK 57 9) qgg)] 57 3 (lvH h g o i)) ae:=by kernel_rfl
def gLv:S->K (PX×S):=λs ae=> ∃h g,s=lvH h g [] 0/\(h.length<=1000000/\g.length<=1000000)/\ ∀o,o=Ld h g->ae (.exit 0,⟨72,[(5,.sl 0 0 o.length)],[(0,⟨0,none,fS false o⟩)]⟩)
def JK:En:=En.mk 0 none (Obj.arr (50:TypeId) false [])
def Vy:List (Nat×P):=(5,ZY)::JE
def Z8H(nw:List aZ)(bq:List aZ):S:=S.mk 72 (tB nw::yl bq::Vy) [(0,JK)]
theorem qlG(h g:List aZ)(ae:P×List (Nat×En)->Prop):(∃(nw:List aZ) (bq:List aZ),Z8H h g=Z8H nw bq/\(Dm nw/\Dm bq)/\ ∀(o:List av),o=Ld nw bq->ae (pC o,r7 o))=(aJ [] [(3,ah (aK 57 3) gLv)] 57 [jk h,jk g] []) ae:=by kernel_rfl
def Vz:bg:=λps R ae=> ∃h g,ps=[jk h,jk g]/\R=[]/\(h.length<=1000000/\g.length<=1000000)/\ ∀o,o=Ld h g->ae (.sl 0 0 o.length,[(0,⟨0,none,fS false o⟩)])
theorem LC(d:aZ):cw PR 106 (iH d)=true:=by kernel_rfl
theorem qlH(y x:aZ):(y.1.1==x.1.1&&(y.1.2.1==x.1.2.1&&true)&&(y.1.2.2==x.1.2.2&&true)&&(y.2.1==x.2.1&&(y.2.2==x.2.2&&true)&&true))=(y==x):=by rw[zaH];obtain⟨⟨a,b,c⟩,d,e⟩:=y;obtain⟨⟨a',b',c'⟩,d',e'⟩:=x;simp[and_assoc]
theorem uG{α:Type}[BEq α][LawfulBEq α] {l:List α}{x:α}{i:Nat}(hi:i<l.length)(ht:(l[i]==x)=true):x∈l:=by rw[<-eq_of_beq ht];exact zaq hi
theorem uH{α:Type}[BEq α][LawfulBEq α] {l:List α}{x:α}(h: ∀j (hj:j<l.length),(l[j]==x)=false):x∉l:=λhx=>by obtain⟨j,hj,rfl⟩:=zaT hx;have:=h j hj;simp at this
section
variable{X:XF}
theorem qbZ:LD X 92 2 (ah (aK 92 2) qge):=LD.find (H:=[]) (hk:=[]) (by kernel_rfl) (by kernel_rfl) .nil .nil
 (A:=List aZ×aZ) (λa k=>qbV a.1 a.2 k) (·.1) (λa _ x=>x==a.2) (λa=>a.1.length<=1000000) (λ_ _=>(.ret,⟨18,[(4,.d (.bool true))],[]⟩)) (λ_=>(.exit 0,⟨18,[],[]⟩)) (λ_ _ h=>by cases h) (λ_ h=>by cases h)
 (by
  rintro⟨l,x⟩ k ae du hm h0 hk ht hf;dsimp only at*
  (rw[<-qdy];delta Z8b ZA ZB bP cE vY tB Za Z9 Zw ZW Ig Zt Ay Qd Qe Z85)
  have e1:D.nth (l.map iH) k.toNat=iH l[k.toNat]:=ax _ _ _ du;have aQ:k.toNat<(l.map iH).length:=by rw[zaa];exact du
  rw[e1];have v:=qlH l[k.toNat] x;generalize l[k.toNat]=y at*
  rw[<-v] at ht hf;simp only[qbV,zaa] at hf aQ⊢;exact bn hk (ao ⟨h0,hk⟩ (aq (LC _) (aA (λh=>ht h) λh=>ao (by omega) (hf h)))))
 (by
  rintro⟨l,x⟩ k ae hm hk hp;dsimp only at*
  (rw[<-qdy];delta Z8b ZA ZB bP cE vY tB Za Z9 Zw ZW Ig Zt Ay Qd Qe Z85)
  exact jU (by first |omega | (simp only[zaa];omega)) hp)
 (by rintro s ae ⟨l,x,rfl,hm,h1,h2⟩;exact⟨(l,x),rfl,hm,λ_ hi _ ht _=>h1 (uG hi ht),λh=>h2 (uH h)⟩)
theorem qdB:FD X 92 Vp:=FD.mk (H:=[]) (hk:=[(2,ah (aK 92 2) qge)]) (by kernel_rfl) .nil (.cons qbZ .nil) (by
 intro ps R ae hh;obtain⟨l,x,rfl,rfl,hm,hp⟩:=hh
 (rw[<-qlE];delta Z3 Z4 ZW ZX Dm Z8b Z7 ZV bP cE vY tB)
 exact⟨l,x,rfl,hm,λh=>hp _ (by simp[h]),λh=>hp _ (by simp[h])⟩)
theorem qb0:LD X 42 2 (ah (aK 42 2) qgf):=LD.find (H:=[]) (hk:=[]) (by kernel_rfl) (by kernel_rfl) .nil .nil
 (A:=List ay×ay) (λa k=>qbW a.1 a.2 k) (·.1) (λa _ x=>x==a.2) (λa=>a.1.length<=1000000) (λa _=>(.ret,⟨18,[(0,eS a.1),(4,.d (.bool true))],[]⟩)) (λa=>(.exit 0,⟨18,[(0,eS a.1)],[]⟩)) (λ_ _ h=>by cases h) (λ_ h=>by cases h)
 (by
  rintro⟨l,x⟩ k ae du hm h0 hk ht hf;dsimp only at*
  (rw[<-qdz];delta iP iQ yh Ff NW ZA ZB bP cE Za Z9 Zw ZW Ig dq kC Qf Zt Iz F5 Z8d u7 B1 NH Q6)
  have e1:D.nth (l.map bh) k.toNat=bh l[k.toNat]:=ax _ _ _ du;have aQ:k.toNat<(l.map bh).length:=by rw[zaa];exact du
  rw[e1];have v:=Lp l[k.toNat] x;generalize l[k.toNat]=y at*
  rw[<-v] at ht hf;simp only[qbW,zaa] at hf aQ⊢;exact bn hk (ao ⟨h0,hk⟩ (aq (jM _) (aA (λh=>ht h) λh=>ao (by omega) (hf h)))))
 (by
  rintro⟨l,x⟩ k ae hm hk hp;dsimp only at*
  (rw[<-qdz];delta iP iQ yh Ff NW ZA ZB bP cE Za Z9 Zw ZW Ig dq kC Qf Zt Iz F5 Z8d u7 B1 NH Q6)
  exact jU (by first |omega | (simp only[zaa];omega)) hp)
 (by rintro s ae ⟨l,x,rfl,hm,h1,h2⟩;exact⟨(l,x),rfl,hm,λ_ hi _ ht _=>h1 (uG hi ht),λh=>h2 (uH h)⟩)
theorem qdC:FD X 42 Vs:=FD.mk (H:=[]) (hk:=[(2,ah (aK 42 2) qgf)]) (by kernel_rfl) .nil (.cons qb0 .nil) (by
 intro ps R ae hh;obtain⟨l,x,rfl,rfl,hm,hp⟩:=hh
 (rw[<-qlF];delta Z3 Z4 ZW ZX dv kQ iP iQ yh Ff NW Z7 ZV bP cE dq kC Qf)
 exact⟨l,x,rfl,hm,λh=>hp _ (by simp[h]),λh=>hp _ (by simp[h])⟩)
theorem VA:LD X 42 2 (ah (aK 42 2) Vr):=LD.find (H:=[]) (hk:=[]) (by kernel_rfl) (by kernel_rfl) .nil .nil
 (A:=List ay×ay) (λa k=>qbX a.1 a.2 k) (·.1) (λa _ x=>x==a.2) (λa=>a.1.length<=1000000) (λa _=>(.ret,⟨18,[(0,.sl 0 0 a.1.length),(4,.d (.bool true))],[(0,⟨0,some 0,mL false a.1⟩)]⟩)) (λa=>(.exit 0,⟨18,[(0,.sl 0 0 a.1.length)],[(0,⟨0,some 0,mL false a.1⟩)]⟩)) (λ_ _ h=>by cases h) (λ_ h=>by cases h)
 (by
  rintro⟨l,x⟩ k ae du hm h0 hk ht hf;dsimp only at*
  (rw[<-Vq];delta iP iQ yh dq P9 ZA ZB iN ti Za Z9 Zw Bd ZW Ig dv w5 Zt Iz F5 Z8d u7 NV)
  have e1:D.nth (l.map bh) k.toNat=bh l[k.toNat]:=ax _ _ _ du;have aQ:k.toNat<(l.map bh).length:=by rw[zaa];exact du
  rw[e1];have v:=Lp l[k.toNat] x;generalize l[k.toNat]=y at*
  rw[<-v] at ht hf;simp only[qbX,zaa] at hf aQ⊢;exact bn hk (ao ⟨h0,hk⟩ (ao aQ (aq (jM _) (aA (λh=>ht h) λh=>ao (by omega) (hf h))))))
 (by
  rintro⟨l,x⟩ k ae hm hk hp;dsimp only at*
  (rw[<-Vq];delta iP iQ yh dq P9 ZA ZB iN ti Za Z9 Zw Bd ZW Ig dv w5 Zt Iz F5 Z8d u7 NV)
  exact jU (by first |omega | (simp only[zaa];omega)) hp)
 (by rintro s ae ⟨l,x,rfl,hm,h1,h2⟩;exact⟨(l,x),rfl,hm,λ_ hi _ ht _=>h1 (uG hi ht),λh=>h2 (uH h)⟩)
theorem VB:FD X 42 IV:=FD.mk (H:=[]) (hk:=[(2,ah (aK 42 2) Vr)]) (by kernel_rfl) .nil (.cons VA .nil) (by
 intro ps R ae hh;obtain⟨l,x,rfl,rfl,hm,hp⟩:=hh
 (rw[<-qjr];delta Z3 dq P9 Bd ZW dv kQ iP iQ yh Z7 ZV iN ti w5 Z8g)
 exact⟨l,x,rfl,hm,λh=>hp _ (by simp[h]),λh=>hp _ (by simp[h])⟩)
theorem VC:LD X 91 2 (ah (aK 91 2) Vw):=LD.find (H:=[]) (hk:=[]) (by kernel_rfl) (by kernel_rfl) .nil .nil
 (A:=List av×av) (λa k=>qbY a.1 a.2 k) (·.1) (λa _ x=>x==a.2) (λa=>a.1.length<=1000000) (λa _=>(.ret,⟨18,[(0,.sl 0 0 a.1.length),(4,.d (.bool true))],[(0,⟨0,some 0,fS false a.1⟩)]⟩)) (λa=>(.exit 0,⟨18,[(0,.sl 0 0 a.1.length)],[(0,⟨0,some 0,fS false a.1⟩)]⟩)) (λ_ _ h=>by cases h) (λ_ h=>by cases h)
 (by
  rintro⟨l,x⟩ k ae du hm h0 hk ht hf;dsimp only at*
  (rw[<-Vv];delta eX eY e7 eN eO mH TY fg Z8k ZA ZB iN ti Za Z9 Zw Vt ZW Ig fF pC Zt FT FU FV Z2a vN oi Vu vb)
  have e1:D.nth (l.map bV) k.toNat=bV l[k.toNat]:=ax _ _ _ du;have aQ:k.toNat<(l.map bV).length:=by rw[zaa];exact du
  rw[e1];have v:=F6 l[k.toNat] x;generalize l[k.toNat]=y at*
  rw[<-v] at ht hf;simp only[qbY,zaa] at hf aQ⊢;exact bn hk (ao ⟨h0,hk⟩ (ao aQ (aq (mg _) (aA (λh=>ht h) λh=>ao (by omega) (hf h))))))
 (by
  rintro⟨l,x⟩ k ae hm hk hp;dsimp only at*
  (rw[<-Vv];delta eX eY e7 eN eO mH TY fg Z8k ZA ZB iN ti Za Z9 Zw Vt ZW Ig fF pC Zt FT FU FV Z2a vN oi Vu vb)
  exact jU (by first |omega | (simp only[zaa];omega)) hp)
 (by rintro s ae ⟨l,x,rfl,hm,h1,h2⟩;exact⟨(l,x),rfl,hm,λ_ hi _ ht _=>h1 (uG hi ht),λh=>h2 (uH h)⟩)
theorem qgh:FD X 91 Vx:=FD.mk (H:=[]) (hk:=[(2,ah (aK 91 2) Vw)]) (by kernel_rfl) .nil (.cons VC .nil) (by
 intro ps R ae hh;obtain⟨l,x,rfl,rfl,hm,hp⟩:=hh
 (rw[<-qjs];delta Z3 fg Z8k Vt ZW fF nu eX eY e7 eN eO mH TY Z7 ZV iN ti pC Z8m)
 exact⟨l,x,rfl,hm,λh=>hp _ (by simp[h]),λh=>hp _ (by simp[h])⟩)
theorem qb1:LD X 57 9 (ah (aK 57 9) qgg):=LD.ins (H:=[(88,gG)]) (hk:=[]) (by kernel_rfl) (by kernel_rfl) (.cons lK .nil) .nil
 (A:=List aZ×List aZ×Nat×Int) (α:=av) (λa o k=>lvI a.1 a.2.1 o a.2.2.1 a.2.2.2 k) mh (λa=>a.2.2.1) (λ_=>True) (λa o=>(.exit 2,⟨72,[(0,jk a.1),(1,jk a.2.1),(5,.sl 0 0 a.2.2.1),(6,iD a.2.2.2)],[(0,⟨0,none,fS false o⟩)]⟩)) (λ_ _ h=>by cases h)
 (by
  rintro⟨h,g,n,i⟩ o k ae _ h0 xt k9 hk hz bS cv;dsimp only at*
  subst xt
  (rw[<-qjt];delta fg Bf r7 Zk Zm ZS Bg Zt FT FU FV Q7 Zc Z5l Yw Z8r ZG Z8q ZM ZN vY yl tB Ub Zo Zl AV Z8v Q8 oi Z8n uZ Za Z9 Zb vN Vu l8 ZF)
  refine cr (λhp=> ?_) λhp=>hz (by omega);have ft:k.toNat-1<o.length:=by omega
  have ek:(k-1).toNat=k.toNat-1:=by omega
  have e1:D.nth (o.map bV) k.toNat=bV o[k.toNat]:=ax _ _ _ hk;have e2:D.nth (o.map bV) (k.toNat-1)=bV o[k.toNat-1]:=ax _ _ _ ft;have bS:=bS hp;have cv:=cv hp;have vZ:=jj bV o k.toNat o[k.toNat] o[k.toNat-1];have e3: ∀z,D.nth ((o.map bV).set k.toNat z) (k.toNat-1)=bV o[k.toNat-1]:=λz=>by unfold D.nth;rw[zad,za3 (by omega)];simp[ft]
  rw[ek,e1,e2];simp only[e3];generalize o[k.toNat]=x at*
  generalize o[k.toNat-1]=y at*
  simp only[zaa,zbj] at cv⊢;have v7:0<=k/\k<(o.length:Int):=⟨h0,by omega⟩
  have v8:0<=k-1/\k-1<(o.length:Int):=⟨by omega,by omega⟩
  have hf:(-9223372036854775808:Int)<=k-1/\k-1<=9223372036854775807:=by omega
  refine ao v7 (ao hk (aq (mg _) (ao hf (ao v8 (ao ft (aq (mg _) ⟨(x).1,(x).2.1,(x).2.2,(y).1,(y).2.1,(y).2.2,rfl,rfl,cr (λh=> ?_) λh=>bS (by rw[<-zaQ];exact λh2=>h ((il (x) (y)).2 h2))⟩))))));have hy:=cv ((il (x) (y)).1 h);simp only[lvI,fS] at hy;rw[<-vZ] at hy;refine ao hf (ao hf (ao v8 (ao ft (aq (mg _) (ao v7 (ao hk (aq (mg _) (ao v7 (ao hk (aq (mg _) (ao v8 (ao ft (aq (mg _) (ao hf ?_))))))))))))));exact hy)
 (by rintro s ae ⟨h,g,o,x,n,i,k,rfl,⟨hk,hn,ho⟩,hp⟩;refine⟨(h,g,n,i),o,x,k,rfl,hk,trivial,⟨hn.symm,ho⟩,?_⟩;have:=hp _ rfl;rw[lvH,jN,<-hn] at this;exact this)
theorem qb2{h g:List aZ}{i:Nat}(hi:i<h.length):Ld (h.take (i+1)) g=Uj g (Ld (h.take i) g) h[i]:=by unfold Ld;rw[zae hi,za7];rfl
theorem qgi:LD X 57 3 (ah (aK 57 3) gLv):=LD.idx (H:=[(92,Vp),(91,Vx)]) (hk:=[(9,ah (aK 57 9) qgg)]) (by kernel_rfl) (by kernel_rfl) (.cons qdB (.cons qgh .nil)) (.cons qb1 .nil)
 (A:=List aZ×List aZ) (B:=List av) (λa o i=>lvH a.1 a.2 o i) (λa=>a.1.length) (λa i o=>(a.1.length<=1000000/\a.2.length<=1000000)/\o=Ld (a.1.take i) a.2)
 (λa x=>x=(.exit 0,⟨72,[(5,.sl 0 0 (Ld a.1 a.2).length)],[(0,⟨0,none,fS false (Ld a.1 a.2)⟩)]⟩))
 (by
  rintro⟨h,g⟩ o i ae h0 bK aQ ⟨hm,ho⟩ hn aT;dsimp only at*
  (rw[<-qdA];delta fF vb Z8C Zk Zm rk JJ ZM ZN fg ZS Za Z9 Zt Ay Z8y Z8z oi Bf r7 ZA ZL vY yl tB Zw nu Z8k Vt eX eY e7 eN eO l9 e8 pC Z8x Dm Zo Z8D Z8E Qd Qe Z85)
  have k9:o.length<=i.toNat:=by have:=Ns (h.take i.toNat) g;rw[zas] at this;rw[ho];omega
  have e1:D.nth (h.map iH) i.toNat=iH h[i.toNat]:=ax _ _ _ aQ;have iv:=qb2 (g:=g) aQ;rw[<-ho] at iv;have bZ:=λo' (ff:o'=Uj g o h[i.toNat])=>hn o' ⟨hm,by rw[iv];exact ff⟩;generalize h[i.toNat]=d at*
  rw[e1];simp only[zaa];have t1:List.take o.length (o.map bV)++[bV d.1]=(o++[d.1]).map bV:=bO bV o d.1;refine bn bK (ao ⟨h0,bK⟩ (aq (LC _) (ao ⟨h0,bK⟩ (aq (LC _) ⟨g,d,rfl,rfl,hm.2,λb hb=> ?_⟩))));refine aA (λA8=>ao (by omega) (bZ o ?_)) λw6=>⟨o,d.1,rfl,rfl,by omega,λb2 cu=>aA (λVD=>ao (by omega) (bZ o ?_)) λVE=> ?_⟩
  ·unfold Uj;rw[hb,zai] at A8;rw[zap (.inl A8)]
  ·unfold Uj;rw[cu,zai] at VD;rw[zap (.inr VD)]
  rw[hb,zaP] at w6;rw[cu,zaP] at VE;have VF:Uj g o d=cD mh o d.1:=by unfold Uj;rw[zan (λhh=>hh.elim w6 VE)]
  simp only[zao,zat,zaF];refine aq ?_ (ao (by omega) ⟨h,g,o,d.1,o.length+1,i,((o.length+1:Nat):Int)-1,congrArg (λz=>(⟨72,[(0,jk h),(1,jk g),(5,.sl 0 0 (o.length+1)),(6,iD i),(8,iD (((o.length+1:Nat):Int)-1))],[(0,⟨0,none,.arr 50 false z⟩)]⟩:S)) t1,⟨by omega,rfl,by omega⟩,λo' ff=>ao (by omega) (bZ o' (by rw[VF];exact ff))⟩);rw[zab];exact⟨by simp,cd (by omega) (by omega)⟩
 )
 (by
  rintro⟨h,g⟩ o i ae hi ⟨hm,ho⟩ aT;dsimp only at*
  (rw[<-qdA];delta fF vb Z8C Zk Zm rk JJ ZM ZN fg ZS Za Z9 Zt Ay Z8y Z8z oi Bf r7 ZA ZL vY yl tB Zw nu Z8k Vt eX eY e7 eN eO l9 e8 pC Z8x Dm Zo Z8D Z8E Qd Qe Z85)
  refine jU (by simp only[zaa];omega) (aT _ (λh=>by cases h) ?_);rw[ho,zaj])
 (by rintro s ae ⟨h,g,rfl,hs,hp⟩;refine⟨(h,g),[],rfl,⟨hs,rfl⟩,?_⟩;rintro x rfl;exact hp _ rfl)
theorem qgj:FD X 57 Vz:=FD.mk (H:=[]) (hk:=[(3,ah (aK 57 3) gLv)]) (by kernel_rfl) .nil (.cons qgi .nil) (by
 intro ps R ae hh;obtain⟨h,g,rfl,rfl,hs,hp⟩:=hh
 (rw[<-qlG];delta fg Bf r7 fF pC Dm JK Z7 JE ZY Vy vY yl tB Z8H)
 exact⟨h,g,rfl,hs,λo ho=>hp o ho⟩)
end
abbrev KH:Hd:=((0,0),(0,0))
def VG:S->K (PX×S):=λst ae=> ∃l out i b,st=qf6 l out b i 0/\(b=false/\0<=i/\i<(l.length:Int)/\l.length<=1000000/\out.length<=1000000)/\ ∀h,h=out.any (λy=>y.1==(l.getD i.toNat KH).1)->ae (.exit 2,⟨80,[(0,Aw l),(3,.sl 0 0 out.length),(4,iD i),(5,.d (.bool h))],[(0,⟨0,none,xD false out⟩)]⟩)
def Qg(a b:Hd):Bool:=jP b.1 a.1
abbrev VH(l out:List Hd)(n:Nat)(i k:Int):S:=⟨80,[(0,Aw l),(3,.sl 0 0 n),(4,iD i),(7,iD k)],[(0,⟨0,none,xD false out⟩)]⟩
def VI:S->K (PX×S):=λst ae=> ∃l o x n i k,st=VH l (o++[x]) n i k/\(k=(o.length:Int)/\n=o.length+1/\o.length<=1000000)/\ ∀o',o'=cD Qg o x->ae (.exit 4,Vi l o' i)
def Z8J(iS:List Hd)(au:List Hd)(bb:Int):En:=En.mk 0 none (Obj.arr (139:TypeId) false (LA iS++[D.agg (Z7P au bb)]))
def VJ(iS:List Hd)(au:List Hd)(bb:Int):Nat:=fR iS+List.length [D.agg (Z7P au bb)]
theorem VK(l out:List Hd)(i:Int)(ae:PX×S->Prop):(bif decide (i<(↑(xG l):Int)) then∃(au:List Hd) (iS:List Hd) (bb:Int) (b:Bool),S.mk 80 (Fk l::r6 out::og i::(5,P.d Z3)::JE) (xH out)=S.mk 80 (Fk au::r6 iS::og bb::(5,dV b)::JE) (xH iS)/\(b=false/\(0:Int)<=bb/\bb<vV au/\pZ au/\pZ iS)/\ ∀(h:Bool),(h=List.any iS λ(y:Hd)=>Prod.fst y==Prod.fst (List.getD au (Zt bb) KH))->bif h then ob (Zw bb) (ae (PX.normal,S.mk 80 (Fk au::r6 iS::tq bb) (xH iS))) else ob (Z7M bb au) (ob (Dj au bb) (ob (Nat.ble (fR iS) (xG iS)&&aI (VJ iS au bb) 32) (ob (decide (Z9<=(↑(VJ iS au bb):Int)-(1:Int)/\(↑(VJ iS au bb):Int)-(1:Int)<=Za)) (∃(l:List Hd) (o:List Hd) (x:Hd) (n:Nat) (i:Int) (k:Int),S.mk 80 [Fk au,(3,P.sl 0 0 (VJ iS au bb)),og bb,(7,P.d (D.int .i64 ((↑(VJ iS au bb):Int)-(1:Int))))] [(0,Z8J iS au bb)]=S.mk 80 [Fk l,(3,ZM n),og i,o5 k] [(0,En.mk 0 none (Obj.arr (139:TypeId) false (List.map bM (o++[x]))))]/\(k=vV o/\n=fR o+1/\pZ o)/\ ∀(o':List Hd),o'=cD Qg o x->ob (Zw i) (ae (PX.normal,S.mk 80 (Fk l::r6 o'::tq i) (xH o'))))))) else ae (PX.exit 0,S.mk 80 [r6 out] (xH out)))=(aD [] [(7,ah (aK 84 7) VG),(13,ah (aK 84 13) VI)] 84 3 (Vi l out i)) ae:=by kernel_rfl
def VL:S->K (PX×S):=λst ae=> ∃l,st=Vi l [] 0/\l.length<=1000000/\ ∀o,o=cm Qg (rB l)->ae (.exit 0,⟨80,[(3,.sl 0 0 o.length)],[(0,⟨0,none,xD false o⟩)]⟩)
def Z8K:En:=En.mk 0 none (Obj.arr (139:TypeId) false [])
def Z8L(au:List Hd):S:=S.mk 80 (Fk au::T6) [(0,Z8K)]
theorem qju(l:List Hd)(ae:P×List (Nat×En)->Prop):(∃(au:List Hd),Z8L l=Z8L au/\pZ au/\ ∀(o:List Hd),o=cm Qg (rB au)->ae (rF o,xH o))=(aJ [] [(3,ah (aK 84 3) VL)] 84 [Aw l] []) ae:=by kernel_rfl
def qgk:bg:=λps R ae=> ∃l,ps=[Aw l]/\R=[]/\l.length<=1000000/\ ∀o,o=cm Qg (rB l)->ae (.sl 0 0 o.length,[(0,⟨0,none,xD false o⟩)])
def qgl:S->K (PX×S):=λst ae=> ∃l,st=qbP l [] 0/\l.length<=1000000/\ ∀o,o=l.map eC->ae (.exit 0,⟨26,[(3,.sl 0 0 o.length)],[(0,⟨0,none,xD false o⟩)]⟩)
def Z8M(au:List ak):S:=S.mk 26 (de au::T6) [(0,Z8K)]
theorem qjv(l:List ak)(ae:P×List (Nat×En)->Prop):(∃(au:List ak),Z8M l=Z8M au/\iR au/\ ∀(o:List Hd),o=List.map eC au->ae (rF o,xH o))=(aJ [] [(3,ah (aK 44 3) qgl)] 44 [bp l] []) ae:=by kernel_rfl
def VM:bg:=λps R ae=> ∃l,ps=[bp l]/\R=[]/\l.length<=1000000/\ ∀o,o=l.map eC->ae (.sl 0 0 o.length,[(0,⟨0,none,xD false o⟩)])
abbrev qgm(m on:List Hd)(i:Int)(un:Bool)(k:Int):S:=⟨63,[(3,.sl 0 0 m.length),(4,.sl 1 0 on.length),(5,iD i),(6,.d (.bool un)),(7,iD k)],[(0,⟨0,none,xD false m⟩),(1,⟨0,none,xD false on⟩)]⟩
def VN:S->K (PX×S):=λst ae=> ∃m on i b,st=qgm m on i b 0/\(b=false/\0<=i/\i<(m.length:Int)/\m.length<=1000000/\on.length<=1000000)/\ ∀h,h=on.any (λy=>y.2==(m.getD i.toNat KH).1)->ae (.exit 2,⟨63,[(3,.sl 0 0 m.length),(4,.sl 1 0 on.length),(5,iD i),(6,.d (.bool h))],[(0,⟨0,none,xD false m⟩),(1,⟨0,none,xD false on⟩)]⟩)
def Yx(m:List Hd)(on:List Hd):List (Nat×En):=[Bc m,(1,IQ on)]
def B6(i:Int):Nat×P:=(5,Zm i)
def Yy(on:List Hd):Nat×P:=(4,P.sl 1 0 (fR on))
theorem VO(m on:List Hd)(i:Int)(un:Bool)(k:Int)(ae:PX×S->Prop):(bif Rg k on then bif un then ob (Zw k) (ae (PX.normal,S.mk 63 (r6 m::Yy on::B6 i::(6,ZW)::ZT k) (Yx m on))) else ob (Fj k on) (ob (Fh k on) (ob (Dj on k) (ob (Fj i m) (ob (Fh i m) (ob (Dj m i) (ob (Zw k) (ae (PX.normal,S.mk 63 (r6 m::Yy on::B6 i::(6,P.d (D.bool (D.aj (D.ar (yj on k) 2)==Fg m i&&(D.aj (D.ar (yj on k) 3)==IP m i&&true))))::ZT k) (Yx m on))))))))) else ae (PX.exit 2,S.mk 63 [r6 m,Yy on,B6 i,(6,dV un)] (Yx m on)))=(aD [] [] 53 8 (qgm m on i un k)) ae:=by kernel_rfl
abbrev qb3(m on:List Hd)(i:Int):S:=⟨63,[(3,.sl 0 0 m.length),(4,.sl 1 0 on.length),(5,iD i)],[(0,⟨0,none,xD false m⟩),(1,⟨0,none,xD false on⟩)]⟩
abbrev qb4(on:List Hd)(out:List ay)(i:Int):S:=⟨63,[(4,.sl 0 0 on.length),(8,.sl 1 0 out.length),(9,iD i)],[(0,⟨0,none,xD false on⟩),(1,⟨0,none,mL false out⟩)]⟩
theorem qgn(on:List Hd)(out:List ay)(i:Int)(ae:PX×S->Prop):(bif Z2 i then ob (Fj i on) (ob (Fh i on) (ob (Dj on i) (ob (Nat.ble (dv out) (List.length (dq out))&&aI (dv out+List.length [Z7D on i]) 16) (ob (Zb i) (ae (PX.normal,S.mk 63 ((4,rF on)::(8,P.sl 1 0 (dv out+List.length [Z7D on i]))::Z3t i) [Bc on,(1,En.mk 0 none (Obj.arr (30:TypeId) false (List.take (dv out) (dq out)++[Z7D on i])))])))))) else ae (PX.exit 4,S.mk 63 [(8,w5 out)] (Qa out)))=(aD [] [] 53 15 (qb4 on out i)) ae:=by kernel_rfl
theorem VP(m on:List Hd)(i:Int)(ae:PX×S->Prop):(bif Rg i m then∃(bz:List Hd) (bG:List Hd) (bb:Int) (b:Bool),S.mk 63 (r6 m::Yy on::B6 i::(6,P.d Z3)::pU) (Yx m on)=S.mk 63 (r6 bz::Yy bG::B6 bb::(6,dV b)::pU) (Yx bz bG)/\(b=false/\(0:Int)<=bb/\bb<vV bz/\pZ bz/\pZ bG)/\ ∀(h:Bool),(h=List.any bG λ(y:Hd)=>Prod.snd y==Prod.fst (List.getD bz (Zt bb) KH))->bif lX h then ob (Fj bb bz) (ob (Fh bb bz) (ob (Dj bz bb) (ob (Nat.ble (fR bG) (xG bG)&&aI (VJ bG bz bb) 32) (ob (Zw bb) (ae (PX.normal,S.mk 63 (r6 bz::(4,P.sl 1 0 (VJ bG bz bb))::ZB bb) [Bc bz,(1,Z8J bG bz bb)])))))) else ob (Zw bb) (ae (PX.normal,S.mk 63 (r6 bz::Yy bG::ZB bb) (Yx bz bG))) else ae (PX.exit 0,S.mk 63 [(4,rF on)] (xH on)))=(aD [] [(8,ah (aK 53 8) VN)] 53 4 (qb3 m on i)) ae:=by kernel_rfl
def VQ:S->K (PX×S):=λst ae=> ∃m,st=qb3 m [] 0/\m.length<=1000000/\ ∀o,o=x7 m []->ae (.exit 0,⟨63,[(4,.sl 0 0 o.length)],[(0,⟨0,none,xD false o⟩)]⟩)
def VR:S->K (PX×S):=λst ae=> ∃on i,st=qb4 on [] i/\(i=(on.length:Int)-1/\on.length<=1000000)/\ ∀o,o=(on.map (·.1)).reverse->ae (.exit 4,⟨63,[(8,.sl 0 0 o.length)],[(0,⟨0,none,mL false o⟩)]⟩)
def Z8R(m:List Hd):S:=S.mk 63 (r6 m::(4,rE)::ZV) [Bc m,(1,Z8K)]
theorem qjw(l:List Hd)(ae:P×List (Nat×En)->Prop):(∃(au:List Hd),[P.d (D.sl 4 (List.map bM l))]=[P.d (D.sl 4 (List.map bM au))]/\Zo/\pZ au/\ ∀(o:List Hd),o=cm Qg (rB au)-> ∃(m:List Hd),Z8R o=Z8R m/\pZ m/\ ∀(o:List Hd),o=x7 m []->ob (decide (Z9<=vV o-(1:Int)/\vV o-(1:Int)<=Za)) (∃(on:List Hd) (i:Int),S.mk 63 [(4,rF o),(8,rE),(9,P.d (D.int .i64 (vV o-(1:Int))))] [Bc o,(1,vX)]=S.mk 63 ((4,rF on)::(8,rE)::Yp i) [Bc on,(1,vX)]/\(i=vV on-(1:Int)/\pZ on)/\ ∀(o:List ay),o=List.reverse (List.map (λ(x:Hd)=>Prod.fst x) on)->ae (w5 o,Qa o)))=(aJ [(84,qgk)] [(4,ah (aK 53 4) VQ),(15,ah (aK 53 15) VR)] 53 [Aw l] []) ae:=by kernel_rfl
def VS:bg:=λps R ae=> ∃l,ps=[Aw l]/\R=[]/\l.length<=1000000/\ ∀o,o=AW l->ae (.sl 0 0 o.length,[(0,⟨0,none,mL false o⟩)])
theorem IW{α:Type}(t:α->Bool)(l:List α){i:Nat}(h:i<l.length):(l.take (i+1)).any t=((l.take i).any t ||t l[i]):=by rw[zae h,zcu];simp
section
variable{X:XF}
theorem VT:LD X 84 7 (ah (aK 84 7) VG):=LD.idx (H:=[]) (hk:=[]) (by kernel_rfl) (by kernel_rfl) .nil .nil
 (A:=List Hd×List Hd×Int) (B:=Bool) (λa b k=>qf6 a.1 a.2.1 b a.2.2 k) (λa=>a.2.1.length) (λa k b=>(0<=a.2.2/\a.2.2<(a.1.length:Int)/\a.1.length<=1000000/\a.2.1.length<=1000000)/\b=(a.2.1.take k).any (λy=>y.1==(a.1.getD a.2.2.toNat KH).1))
 (λa x=>x=(.exit 2,⟨80,[(0,Aw a.1),(3,.sl 0 0 a.2.1.length),(4,iD a.2.2),(5,.d (.bool (a.2.1.any (λy=>y.1==(a.1.getD a.2.2.toNat KH).1))))],[(0,⟨0,none,xD false a.2.1⟩)]⟩))
 (by
  rintro⟨l,out,i⟩ b k ae h0 tU du ⟨⟨pT,bK,rv,k9⟩,hb⟩ hn ho;dsimp only at*
  (rw[<-Vh];delta dV Zt yj IP Fg xG Z7M Dj Fh fR vV Fj IQ Bc xH ZA ZL ZW p7 Zk Zm og rF r6 Fk Za Z9 Zw Rg)
  have e1:D.nth (out.map bM) k.toNat=bM out[k.toNat]:=ax _ _ _ du;have aQ:i.toNat<l.length:=by omega
  have e2:D.nth (l.map bM) i.toNat=bM l[i.toNat]:=ax _ _ _ aQ;have GJ:=IW (λy:Hd=>y.1==(l.getD i.toNat KH).1) out du;rw[e1,e2];simp only[zaa];refine bn tU (aA (λh=>ao (by omega) (hn _ ⟨⟨pT,bK,rv,k9⟩,?_⟩)) λh=>ao ⟨h0,tU⟩ (ao du (aq (vW _) (ao ⟨pT,bK⟩ (aq (vW _) (ao (by omega) (hn _ ⟨⟨pT,bK,rv,k9⟩,?_⟩)))))))
  ·rw[GJ,<-hb,h];rfl
  rw[GJ,<-hb,h,zbu,dW aQ];exact Lp out[k.toNat].1 l[i.toNat].1)
 (by
  rintro⟨l,out,i⟩ b k ae hk ⟨h1,hb⟩ ho;dsimp only at*
  (rw[<-Vh];delta dV Zt yj IP Fg xG Z7M Dj Fh fR vV Fj IQ Bc xH ZA ZL ZW p7 Zk Zm og rF r6 Fk Za Z9 Zw Rg)
  refine jU (by omega) (ho _ (λh=>by cases h) ?_);rw[hb,zaj])
 (by rintro s ae ⟨l,out,i,b,rfl,⟨hb,h1⟩,hp⟩;refine⟨(l,out,i),b,rfl,⟨h1,by rw[hb];simp⟩,?_⟩;rintro x rfl;exact hp _ rfl)
theorem VU:LD X 84 13 (ah (aK 84 13) VI):=LD.ins (H:=[(14,qJ)]) (hk:=[]) (by kernel_rfl) (by kernel_rfl) (.cons Ap .nil) .nil
 (A:=List Hd×Int×Nat) (α:=Hd) (λa o k=>VH a.1 o a.2.2 a.2.1 k) Qg (λa=>a.2.2) (λ_=>True) (λa o=>(.exit 4,⟨80,[(0,Aw a.1),(3,.sl 0 0 a.2.2),(4,iD a.2.1)],[(0,⟨0,none,xD false o⟩)]⟩)) (λ_ _ h=>by cases h)
 (by
  rintro⟨l,i,n⟩ o k ae _ h0 xt k9 hk hz bS cv;dsimp only at*
  subst xt
  (rw[<-qf7];delta IQ Bc xH Zk Zm og BV Zt yj IP Fg Z7P ZG fR rF r6 Fk Zc Z7O Z7Q Zo iP iQ nb jy Z7D Dj xG Fh vV Fj Z7N Za Z9 Zb ZF)
  refine cr (λhp=> ?_) λhp=>hz (by omega);have ft:k.toNat-1<o.length:=by omega
  have e1:D.nth (o.map bM) k.toNat=bM o[k.toNat]:=ax _ _ _ hk;have e2:D.nth (o.map bM) (k-1).toNat=bM o[k.toNat-1]:=by rw[show(k-1).toNat=k.toNat-1 by omega];exact ax _ _ _ ft
  have bS:=bS hp;have cv:=cv hp;rw[e1,e2];have vZ:=jj bM o k.toNat o[k.toNat] o[k.toNat-1];have Mz:=PZ o k.toNat o[k.toNat] o[k.toNat-1];have e3: ∀z,D.nth ((o.map bM).set k.toNat z) (k-1).toNat=bM o[k.toNat-1]:=λz=>by rw[show(k-1).toNat=k.toNat-1 by omega];unfold D.nth;rw[zad,za3 (by omega)];simp[ft]
  generalize o[k.toNat]=x at*
  generalize o[k.toNat-1]=y at*
  have w1:D.aP (D.agg [D.int .i64 (D.aj (D.ar (bM x) 0)),D.int .i64 (D.aj (D.ar (bM x) 1)),D.int .i64 (D.aj (D.ar (bM x) 2)),D.int .i64 (D.aj (D.ar (bM x) 3))]) [D.int .i64 (D.aj (D.ar (bM y) 0)),D.int .i64 (D.aj (D.ar (bM y) 1)),D.int .i64 (D.aj (D.ar (bM y) 2)),D.int .i64 (D.aj (D.ar (bM y) 3))]=bM y:=rfl;have w2:D.aP (D.agg [D.int .i64 (D.aj (D.ar (bM y) 0)),D.int .i64 (D.aj (D.ar (bM y) 1)),D.int .i64 (D.aj (D.ar (bM y) 2)),D.int .i64 (D.aj (D.ar (bM y) 3))]) [D.int .i64 (D.aj (D.ar (bM x) 0)),D.int .i64 (D.aj (D.ar (bM x) 1)),D.int .i64 (D.aj (D.ar (bM x) 2)),D.int .i64 (D.aj (D.ar (bM x) 3))]=bM x:=rfl;rw[w1,e3,w2,show(k-1).toNat=k.toNat-1 by omega,vZ];simp only[VH,zaa,zbj] at cv⊢;have v7:0<=k/\k<(o.length:Int):=⟨h0,by omega⟩
  have v8:0<=k-1/\k-1<(o.length:Int):=⟨by omega,by omega⟩
  have hf:(-9223372036854775808:Int)<=k-1/\k-1<=9223372036854775807:=by omega
  refine ao hf (ao v8 (ao ft (aq (vW _) (ao v7 (ao hk (aq (vW _) ⟨y.1,x.1,rfl,rfl,λr hr=>aA (λh=> ?_) λh=>bS (by rw[<-h,hr];rfl)⟩))))));refine ao hf (ao hf (ao v8 (ao ft (aq (vW _) (ao v7 (ao hk (aq (vW _) (ao v7 (ao hk (aq (vW _) (ao v8 (ao ft (aq (vW _) (ao hf ?_))))))))))))));exact cv (by rw[<-h,hr];rfl))
 (by rintro s ae ⟨l,o,x,n,i,k,rfl,⟨hk,hn,ho⟩,hp⟩;refine⟨(l,i,n),o,x,k,rfl,hk,trivial,⟨hn.symm,ho⟩,?_⟩;have:=hp _ rfl;rw[Vi,jN,<-hn] at this;exact this)
theorem VW:LD X 84 3 (ah (aK 84 3) VL):=LD.idx (H:=[]) (hk:=[(7,ah (aK 84 7) VG),(13,ah (aK 84 13) VI)]) (by kernel_rfl) (by kernel_rfl) .nil (.cons VT (.cons VU .nil))
 (A:=List Hd) (B:=List Hd) (λl o i=>Vi l o i) (λl=>l.length) (λl i o=>l.length<=1000000/\o=cm Qg (rB (l.take i)))
 (λl x=>x=(.exit 0,⟨80,[(3,.sl 0 0 (cm Qg (rB l)).length)],[(0,⟨0,none,xD false (cm Qg (rB l))⟩)]⟩))
 (by
  rintro l o i ae h0 bK aQ ⟨rv,ho⟩ hn aT
  (rw[<-VK];delta Zk Zm o5 ZM Zt yj IP Fg Z7P fR LA Z8J Za Z9 VJ Dj xG Z7M ZA tq Zw pZ vV dV IQ Bc xH Z7 JE Z3 og rF r6 Fk)
  have k9:o.length<=i.toNat:=by rw[ho,lb];have:=ra (l.take i.toNat);rw[zas] at this;omega
  have e2:D.nth (l.map bM) i.toNat=bM l[i.toNat]:=ax _ _ _ aQ;have hg:=dW aQ KH;have uF:=IU aQ;have Lb:(o.any λy=>y.1==l[i.toNat].1)=((rB (l.take i.toNat)).any λy=>y.1==l[i.toNat].1):=by rw[ho];exact(bU _).any_eq
  generalize l[i.toNat]=g at hg uF Lb e2;have t2:D.agg [D.int .i64 (D.aj (D.ar (bM g) 0)),D.int .i64 (D.aj (D.ar (bM g) 1)),D.int .i64 (D.aj (D.ar (bM g) 2)),D.int .i64 (D.aj (D.ar (bM g) 3))]=bM g:=rfl;rw[zaa];refine bn bK ⟨l,o,i,false,rfl,⟨rfl,h0,bK,rv,by omega⟩,λh hh=> ?_⟩;rw[hg] at hh;rw[e2,t2];simp only[zaa,zao,zat,zaF];refine aA (λh1=>ao (by omega) (hn _ ⟨rv,?_⟩)) λh1=>ao ⟨h0,bK⟩ (aq (vW _) (aq ?_ (ao (by omega) ⟨l,o,g,o.length+1,i,((o.length+1:Nat):Int)-1,?_,⟨by omega,rfl,by omega⟩,λo' ff=>ao (by omega) (hn _ ⟨rv,?_⟩)⟩)))
  ·rw[uF,NR (by rw[<-Lb,<-hh,h1]),ho]
  ·rw[zab];exact⟨by simp,cd (by omega) (by omega)⟩
  ·rw[bO]
  rw[uF,NS (by rw[<-Lb,<-hh,h1]),sU,<-ho,ff])
 (by
  rintro l o i ae hi ⟨rv,ho⟩ aT
  (rw[<-VK];delta Zk Zm o5 ZM Zt yj IP Fg Z7P fR LA Z8J Za Z9 VJ Dj xG Z7M ZA tq Zw pZ vV dV IQ Bc xH Z7 JE Z3 og rF r6 Fk)
  simp only[zaa];refine jU (by omega) (aT _ (λh=>by cases h) ?_);rw[ho,zaj])
 (by rintro s ae ⟨l,rfl,hs,hp⟩;refine⟨l,[],rfl,⟨hs,rfl⟩,?_⟩;rintro x rfl;exact hp _ rfl)
theorem qjx:FD X 84 qgk:=FD.mk (H:=[]) (hk:=[(3,ah (aK 84 3) VL)]) (by kernel_rfl) .nil (.cons VW .nil) (by
 intro ps R ae hh;obtain⟨l,rfl,rfl,hs,hp⟩:=hh
 (rw[<-qju];delta IQ Bc xH fR rF pZ Z8K Z7 K6 ZY T6 Fk Z8L)
 exact⟨l,rfl,hs,λo ho=>hp o ho⟩)
theorem qb5:LD X 44 3 (ah (aK 44 3) qgl):=LD.idx (H:=[]) (hk:=[]) (by kernel_rfl) (by kernel_rfl) .nil .nil
 (A:=List ak) (B:=List Hd) (λl o i=>qbP l o i) (λl=>l.length) (λl i o=>l.length<=1000000/\o=(l.take i).map eC)
 (λl x=>x=(.exit 0,⟨26,[(3,.sl 0 0 (l.map eC).length)],[(0,⟨0,none,xD false (l.map eC)⟩)]⟩))
 (by
  rintro l o i ae h0 bK aQ ⟨rv,ho⟩ hn aT
  (rw[<-Vj];delta IQ Bc xH fR rF r6 Zt cg gT Yv la pz pA LA ZA tq ct de Za Z9 Zw Z7S xG dM gi iC nv)
  have k9:o.length<=i.toNat:=by rw[ho];simp;omega
  have e2:D.nth (l.map aR) i.toNat=aR l[i.toNat]:=ax _ _ _ aQ;have jS:(l.take (i.toNat+1)).map eC=o++[eC l[i.toNat]]:=by rw[zae aQ,zau,ho];rfl
  generalize l[i.toNat]=g at e2 jS;have t2:D.agg [D.int .i64 (D.aj (D.ar (aR g) 0)),D.int .i64 (D.aj (D.ar (aR g) 1)),D.int .i64 (D.aj (D.ar (aR g) 4)),D.int .i64 (D.aj (D.ar (aR g) 5))]=bM (eC g):=rfl;rw[e2,t2,bO];simp only[zaa,zao,zat,zaF];refine bn bK (ao ⟨h0,bK⟩ (aq (fh _) (ao ⟨h0,bK⟩ (aq (fh _) (aq ?_ (ao (by omega) ?_))))))
  ·rw[zab];exact⟨by simp,cd (by omega) (by omega)⟩
  have:=hn (o++[eC g]) ⟨rv,jS.symm⟩;simp only[qbP,zah,zao,zat,zaF] at this;exact this)
 (by
  rintro l o i ae hi ⟨rv,ho⟩ aT
  (rw[<-Vj];delta IQ Bc xH fR rF r6 Zt cg gT Yv la pz pA LA ZA tq ct de Za Z9 Zw Z7S xG dM gi iC nv)
  simp only[zaa];refine jU (by omega) (aT _ (λh=>by cases h) ?_);rw[ho,zaj])
 (by rintro s ae ⟨l,rfl,hs,hp⟩;refine⟨l,[],rfl,⟨hs,rfl⟩,?_⟩;rintro x rfl;exact hp _ rfl)
theorem qdD:FD X 44 VM:=FD.mk (H:=[]) (hk:=[(3,ah (aK 44 3) qgl)]) (by kernel_rfl) .nil (.cons qb5 .nil) (by
 intro ps R ae hh;obtain⟨l,rfl,rfl,hs,hp⟩:=hh
 (rw[<-qjv];delta IQ Bc xH fR rF dn iR Z8K Z7 K6 ZY T6 cg ct de Z8M)
 exact⟨l,rfl,hs,λo ho=>hp o ho⟩)
theorem VX:LD X 53 8 (ah (aK 53 8) VN):=LD.idx (H:=[]) (hk:=[]) (by kernel_rfl) (by kernel_rfl) .nil .nil
 (A:=List Hd×List Hd×Int) (B:=Bool) (λa b k=>qgm a.1 a.2.1 a.2.2 b k) (λa=>a.2.1.length) (λa k b=>(0<=a.2.2/\a.2.2<(a.1.length:Int)/\a.1.length<=1000000/\a.2.1.length<=1000000)/\b=(a.2.1.take k).any (λy=>y.2==(a.1.getD a.2.2.toNat KH).1))
 (λa x=>x=(.exit 2,⟨63,[(3,.sl 0 0 a.1.length),(4,.sl 1 0 a.2.1.length),(5,iD a.2.2),(6,.d (.bool (a.2.1.any (λy=>y.2==(a.1.getD a.2.2.toNat KH).1))))],[(0,⟨0,none,xD false a.1⟩),(1,⟨0,none,xD false a.2.1⟩)]⟩))
 (by
  rintro⟨l,out,i⟩ b k ae h0 tU du ⟨⟨pT,bK,rv,k9⟩,hb⟩ hn ho;dsimp only at*
  (rw[<-VO];delta dV Zt yj IP Fg Dj xG Fh fR vV Fj IQ Bc Yx ZA ZT ZW Zk Zm B6 Yy rF r6 Za Z9 Zw Rg)
  have e1:D.nth (out.map bM) k.toNat=bM out[k.toNat]:=ax _ _ _ du;have aQ:i.toNat<l.length:=by omega
  have e2:D.nth (l.map bM) i.toNat=bM l[i.toNat]:=ax _ _ _ aQ;have GJ:=IW (λy:Hd=>y.2==(l.getD i.toNat KH).1) out du;rw[e1,e2];simp only[zaa];refine bn tU (aA (λh=>ao (by omega) (hn _ ⟨⟨pT,bK,rv,k9⟩,?_⟩)) λh=>ao ⟨h0,tU⟩ (ao du (aq (vW _) (ao ⟨pT,bK⟩ (ao aQ (aq (vW _) (ao (by omega) (hn _ ⟨⟨pT,bK,rv,k9⟩,?_⟩))))))))
  ·rw[GJ,<-hb,h];rfl
  rw[GJ,<-hb,h,zbu,dW aQ];exact Lp out[k.toNat].2 l[i.toNat].1)
 (by
  rintro⟨l,out,i⟩ b k ae hk ⟨h1,hb⟩ ho;dsimp only at*
  (rw[<-VO];delta dV Zt yj IP Fg Dj xG Fh fR vV Fj IQ Bc Yx ZA ZT ZW Zk Zm B6 Yy rF r6 Za Z9 Zw Rg)
  refine jU (by omega) (ho _ (λh=>by cases h) ?_);rw[hb,zaj])
 (by rintro s ae ⟨l,out,i,b,rfl,⟨hb,h1⟩,hp⟩;refine⟨(l,out,i),b,rfl,⟨h1,by rw[hb];simp⟩,?_⟩;rintro x rfl;exact hp _ rfl)
theorem VY{l:List Hd}{i:Nat}(h:i<l.length):x7 (l.take (i+1)) []=x6 (x7 (l.take i) []) l[i]:=by rw[zae h];unfold x7;rw[za7];rfl
theorem VZ:LD X 53 4 (ah (aK 53 4) VQ):=LD.idx (H:=[]) (hk:=[(8,ah (aK 53 8) VN)]) (by kernel_rfl) (by kernel_rfl) .nil (.cons VX .nil)
 (A:=List Hd) (B:=List Hd) (λm on i=>qb3 m on i) (λm=>m.length) (λm i on=>m.length<=1000000/\on=x7 (m.take i) [])
 (λm x=>x=(.exit 0,⟨63,[(4,.sl 0 0 (x7 m []).length)],[(0,⟨0,none,xD false (x7 m [])⟩)]⟩))
 (by
  rintro m on i ae h0 bK aQ ⟨rv,ho⟩ hn aT
  (rw[<-VP];delta IQ Bc xH fR rF Zt yj IP Fg Z7P LA Z8J ZA ZB Za Z9 Zw VJ xG Dj Fh vV Fj lX pZ dV Yx Z7 pU Z3 Zk Zm B6 Yy r6 Rg)
  have k9:on.length<=i.toNat:=by rw[ho];have:=uk (m.take i.toNat) [];rw[zas] at this;simp at this;omega
  have e2:D.nth (m.map bM) i.toNat=bM m[i.toNat]:=ax _ _ _ aQ;have hg:=dW aQ KH;have uF:=VY aQ;generalize m[i.toNat]=g at hg uF e2;have t2:D.agg [D.int .i64 (D.aj (D.ar (bM g) 0)),D.int .i64 (D.aj (D.ar (bM g) 1)),D.int .i64 (D.aj (D.ar (bM g) 2)),D.int .i64 (D.aj (D.ar (bM g) 3))]=bM g:=rfl;refine bn bK ⟨m,on,i,false,rfl,⟨rfl,h0,bK,rv,by omega⟩,λh hh=> ?_⟩;rw[hg] at hh;rw[e2,t2,bO];simp only[zaa,zao,zat,zaF];refine aA (λh1=>ao ⟨h0,bK⟩ (ao aQ (aq (vW _) (aq ?_ (ao (by omega) ?_))))) λh1=>ao (by omega) (hn _ ⟨rv,?_⟩)
  ·rw[zab];exact⟨by simp,cd (by omega) (by omega)⟩
  ·have hf:(on.any λy=>y.2==g.1)=false:=by rw[<-hh];simpa using h1
   have:=hn (on++[g]) ⟨rv,by rw[uF,<-ho,x6,zan (by rw[hf];simp)]⟩;simp only[qb3,zah,zao,zat,zaF] at this;exact this
  have hf:(on.any λy=>y.2==g.1)=true:=by rw[<-hh];simpa using h1
  rw[uF,<-ho,x6,zap hf])
 (by
  rintro m on i ae hi ⟨rv,ho⟩ aT
  (rw[<-VP];delta IQ Bc xH fR rF Zt yj IP Fg Z7P LA Z8J ZA ZB Za Z9 Zw VJ xG Dj Fh vV Fj lX pZ dV Yx Z7 pU Z3 Zk Zm B6 Yy r6 Rg)
  refine jU (by omega) (aT _ (λh=>by cases h) ?_);rw[ho,zaj])
 (by rintro s ae ⟨m,rfl,hs,hp⟩;refine⟨m,[],rfl,⟨hs,rfl⟩,?_⟩;rintro x rfl;exact hp _ rfl)
theorem V0:LD X 53 15 (ah (aK 53 15) VR):=LD.par (H:=[]) (hk:=[]) (by kernel_rfl) (by kernel_rfl) .nil .nil
 (A:=List Hd) (B:=Nat×List ay×Int) (λon b=>qb4 on b.2.1 b.2.2) (λon b=>on.length<=1000000/\b.1<=on.length/\b.2.2=(b.1:Int)-1/\b.2.1=((on.drop b.1).map (·.1)).reverse) (λ_ b=>b.1)
 (λon x=>x=(.exit 4,⟨63,[(8,.sl 0 0 ((on.map (·.1)).reverse).length)],[(0,⟨0,none,mL false ((on.map (·.1)).reverse)⟩)]⟩))
 (by
  rintro on ⟨k,out,i⟩ ⟨hm,hk,hi,ho⟩;dsimp only at*
  (rw[<-qgn];delta dq pc Qa dv w5 IQ Bc ZG Z3t fR rF Za Z9 Zb Zt yj IP Fg Z7D Dj xG Fh vV Fj Z2)
  cases k with
  |zero=>refine jU (by omega) ?_;rw[ho,zb5];rfl
  |succ k=>
   have bJ:k<on.length:=by omega
   have k9:out.length<=on.length:=by rw[ho];simp
   have hik:i.toNat=k:=by omega
   have e1:D.nth (on.map bM) i.toNat=bM on[k]:=by rw[hik];exact ax _ _ _ bJ
   have hd:on.drop k=on[k]::on.drop (k+1):=za4 bJ;generalize on[k]=h at e1 hd;have t2:D.agg [D.int .i64 (D.aj (D.ar (bM h) 0)),D.int .i64 (D.aj (D.ar (bM h) 1))]=bh h.1:=rfl;rw[e1,t2,bO];simp only[zaa,zao,zat,zaF];refine bn (by omega) (ao ⟨by omega,by omega⟩ (ao (by omega) (aq (vW _) (aq ?_ (ao (by omega) ?_)))))
   ·rw[zab];exact⟨by simp,cd (by omega) (by omega)⟩
   refine⟨k,zcM k,(k,out++[h.1],i-1),?_,⟨hm,by show k<=_;omega,by show i-1=(k:Int)-1;omega,?_⟩,rfl⟩
   ·simp only[qb4,zah,zao,zat,zaF]
   show out++[h.1]=_;rw[hd,ho];simp)
 (by rintro s ae ⟨on,i,rfl,⟨hi,hm⟩,hp⟩;refine⟨on,(on.length,[],i),rfl,⟨hm,zak _,hi,by simp⟩,?_⟩;rintro x rfl;exact hp _ rfl)
theorem Qh(l:List Hd):cm Qg (rB l)=(lR l).reverse:=by
 have hp:(cm Qg (rB l)).reverse.Perm (rB l):=(zcE _).trans (bU _);have hw:(cm Qg (rB l)).Pairwise (λx y=>jP x.1 y.1=false):=by
  have lin:Jv (λa b:ay=>jP b a):=⟨λx=>iM.Jt x,λx y z h1 h2=>iM.tr z y x h2 h1,λx y h1 h2=>(iM.nx y x h1 h2).symm⟩
  exact nN lin (λh:Hd=>h.1) (rB l)
 have e:=M8 hp (by rw[zb2];exact hw);rw[<-e,List.reverse_reverse]
theorem qdE:FD X 53 VS:=FD.mk (H:=[(84,qgk)]) (hk:=[(4,ah (aK 53 4) VQ),(15,ah (aK 53 15) VR)]) (by kernel_rfl) (.cons qjx .nil) (.cons VZ (.cons V0 .nil)) (by
 intro ps R ae hh;obtain⟨l,rfl,rfl,hs,hp⟩:=hh
 (rw[<-qjw];delta dq pc Qa dv w5 Zk Zm Yp vX IQ Bc rE fR rF Za vV Z9 Z8K Z7 ZV r6 Z8R pZ Zo)
 refine⟨l,rfl,rfl,hs,λo ho=>⟨o,rfl,?_,λo2 ho2=> ?_⟩⟩
 ·rw[ho,lb];have:=ra l;omega
 have hl:o2.length<=1000000:=by
  have h1:=uk o [];have h2:o.length<=l.length:=by rw[ho,lb];exact ra l
  rw[ho2];simp at h1;omega
 refine ao (by omega) ⟨o2,_,rfl,⟨rfl,hl⟩,λo3 ho3=>hp o3 ?_⟩;rw[ho3,ho2,ho,Qh];rfl)
end
abbrev bxS(a:ay):Obj:= .box 30 [iD a.1,iD a.2]
def Z8S(i:Int):List (Nat×P):=[(10,ZG i)]
def yn:Nat×En:=(0,Bb)
def Z8W:List (Nat×En):=[yn]
def w7(i:Int):Nat×P:=(10,Zm i)
def Z8Z(ae:P×List (Nat×En)->Prop):Prop:=ae (P.cH [P.d (D.agg [Z7,Z7]),P.d Z3,P.d (D.int .i64 (11:Int))],[])
def Z8Y(au:List Hd)(aX:ay)(ae:P×List (Nat×En)->Prop):Prop:= ∀(e:Int) (r:ay) (ev:Bool),mG au aX=(e,r,ev)->ae (P.cH (nb r::dV ev::Zn e),[])
def qgo:S->K (PX×S):=λst ae=> ∃l m x,st=er1 l m x (λ_=>none) 0 0/\(m.length<=1000000/\(m.map (·.1)).Nodup)/\ ∀f c,(∀y:ay,f (bh y)=(m.find? (λh=>h.1==y)).map bM)->ae (.exit 0,⟨59,[(0,xE l),(1,xF l),(5,.ref 0 0 0),(6,.ref 1 0 0),(10,.mp 2 0)],[(0,⟨0,none,bxS x⟩),(1,⟨0,none,.box 30 [iD 0,iD 0]⟩),(2,⟨0,none,mpS f c⟩)]⟩)
abbrev er2(x:ay)(ev:Bool)(f:D->Option D)(c n i:Int):S:=⟨59,[(5,.ref 0 0 0),(6,.ref 1 0 0),(7,.d (.bool ev)),(10,.mp 2 0),(35,iD n),(36,iD i)],[(0,⟨0,none,bxS x⟩),(1,⟨0,none,.box 30 [iD 0,iD 0]⟩),(2,⟨0,none,mpS f c⟩)]⟩
def Z90:List D:=[Z7,Z7,Z7,Z7]
def Z91(f:D->Option D)(x:ay):D:=cJ (f (D.agg [iQ x,iP x])) (D.agg Z90)
theorem V1(x:ay)(ev:Bool)(f:D->Option D)(c n i:Int)(ae:PX×S->Prop):(bif Zi i n then ob (cw PR (132:TypeId) (Z91 f x)) (bif !Option.isSome (f (D.agg [iQ x,iP x])) then ae (PX.ret,S.mk 59 [(6,bP),(7,P.d Z3),(8,P.d (D.int .i64 (111:Int)))] Z8W) else bif D.aj (D.ar (Z91 f x) 2)==(0:Int)&&(D.aj (D.ar (Z91 f x) 3)==(0:Int)&&true) then ae (PX.ret,S.mk 59 ((6,bP)::uy ev::tu) (NW x)) else ob (Zw i) (ae (PX.normal,S.mk 59 [qN,Vf,(7,P.d (D.bool (lX ev))),Ve,(35,Zm n),(36,P.d (ZA i))] [(0,En.mk 0 none (Obj.box (30:TypeId) [P.d (D.int .i64 (D.aj (D.ar (Z91 f x) 2))),P.d (D.int .i64 (D.aj (D.ar (Z91 f x) 3)))])),(1,Bb),(2,B3 f c)]))) else ae (PX.exit 2,S.mk 59 [(6,bP),uy ev] Z8W))=(aD [] [] 37 10 (er2 x ev f c n i)) ae:=by kernel_rfl
def qgp:S->K (PX×S):=λst ae=> ∃l x f c n,st=er2 x true f c n 0/\(n=(l.length:Int)+1/\l.length<=1000000/\ ∀y:ay,f (bh y)=(l.find? (λh=>h.1==y)).map bM)/\(∀e r ev,mG l x=(e,r,ev)->ae (.ret,⟨59,[(6,.ref 0 0 0),(7,.d (.bool ev)),(8,iD e)],[(0,⟨0,none,bxS r⟩)]⟩))/\(mG l x=(11,(0,0),false)-> ∀ev:Bool,ae (.exit 2,⟨59,[(6,.ref 0 0 0),(7,.d (.bool ev))],[(0,⟨0,none,.box 30 [iD 0,iD 0]⟩)]⟩))
def V2(bz:List Hd):Prop:=pZ bz/\List.Nodup (List.map (λ(x:Hd)=>Prod.fst x) bz)
def Z92(eD:List Hd)(bz:List Hd)(aX:ay):S:=S.mk 59 [NQ eD,NP eD,qN,Vf,Ve,(19,P.sl 3 0 (fR bz)),(20,P.d (D.int .i64 (vV bz))),(21,P.d Z7)] [Ff aX,(1,Bb),(2,PW),(3,Vc bz)]
theorem qlI(l:List Hd)(x:ay)(ae:P×List (Nat×En)->Prop):(∃(au:List Hd),Z7X l=Z7X au/\Zo/\pZ au/\ ∀(m:List Hd),m=lR au-> ∃(eD:List Hd) (bz:List Hd) (aX:ay),Z92 l m x=Z92 eD bz aX/\V2 bz/\ ∀(f:D->Option D) (c:Int),(∀(y:ay),f (bh y)=Option.map bM (List.find? (λ(h:Hd)=>Prod.fst h==y) bz))->ob (decide (Z9<=Yu eD+(1:Int)/\Yu eD+(1:Int)<=Za)) (∃(l:List Hd) (x:ay) (Bh:D->Option D) (Fl:Int) (n:Int),S.mk 59 [qN,Vf,(7,ZW),Ve,(35,P.d (D.int .i64 (Yu eD+(1:Int)))),(36,P.d Z7)] (Z7E aX f c)=S.mk 59 [qN,Vf,(7,ZW),Ve,(35,Zm n),(36,P.d Z7)] (Z7E x Bh Fl)/\(n=vV l+(1:Int)/\pZ l/\ ∀(y:ay),Bh (bh y)=Option.rec ((λ(_:Unit)=>none) ()) (λ(val:Hd)=>(λ(val:Hd)=>(λ(x:Hd)=>some (bM x)) val) val) (List.find? (λ(h:Hd)=>Prod.fst h==y) l))/\Z8Y l x ae/\(mG l x=((11:Int),((0:Int),(0:Int)),false)-> ∀(_:Bool),Z8Z ae)))=(aJ [(68,Ax)] [(4,ah (aK 37 4) qgo),(10,ah (aK 37 10) qgp)] 37 [xE l,xF l,.d (bh x)] []) ae:=by kernel_rfl
def hEr:bg:=λps R ae=> ∃l x,ps=[xE l,xF l,.d (bh x)]/\R=[]/\(l.length<=1000000/\(l.map (·.1)).Nodup)/\ ∀e r ev,mG l x=(e,r,ev)->ae (.cH [.d (bh r),.d (.bool ev),iD e],[])
theorem LF{l:List Hd}{n:Nat}{x:ay}{e:Bool}(h:l.find? (λh=>h.1==x)=none):ku l (n+1) x e=(111,(0,0),false):=by unfold ku;rw[h];rfl
theorem Qi{l:List Hd}{n:Nat}{x:ay}{e:Bool}{g:Hd}(h:l.find? (λh=>h.1==x)=some g)(hu:g.2=(0,0)):ku l (n+1) x e=(0,x,e):=by unfold ku;rw[h];show(if g.2=(0,0) then _ else _)=_;rw[zap hu]
theorem LG{l:List Hd}{n:Nat}{x:ay}{e:Bool}{g:Hd}(h:l.find? (λh=>h.1==x)=some g)(hu:g.2≠(0,0)):ku l (n+1) x e=ku l n g.2 (!e):=by rw[show ku l (n+1) x e=(match(l.find? λh=>h.1==x).map (·.2) with |none=>(111,(0,0),false)|some u=>if u=(0,0) then(0,x,e) else ku l n u (!e)) from rfl,h];show(if g.2=(0,0) then _ else _)=_;rw[zan hu]
section
variable{X:XF}
end
theorem qb6{a b:ay}(h:bh a=bh b):a=b:=by
 obtain⟨a1,a2⟩:=a;obtain⟨b1,b2⟩:=b;unfold bh at h;injection h with h
 injection h with h1 h2
 injection h2 with h2 h3
 injection h1 with _ h1
 injection h2 with _ h2
 simp at h1 h2;rw[h1,h2]
theorem V3(a b:ay):D.pg (bh a) (bh b)=(a==b):=by rw[zaH,D.hQ,zaW];exact⟨qb6,λh=>by rw[h]⟩
section
variable{X:XF}
theorem qb7:LD X 37 4 (ah (aK 37 4) qgo):=LD.idx (H:=[]) (hk:=[]) (by kernel_rfl) (by kernel_rfl) .nil .nil
 (A:=List Hd×List Hd×ay) (B:=(D->Option D)×Int) (λa b i=>er1 a.1 a.2.1 a.2.2 b.1 b.2 i) (λa=>a.2.1.length) (λa i b=>(a.2.1.length<=1000000/\(a.2.1.map (·.1)).Nodup)/\ ∀y:ay,b.1 (bh y)=((a.2.1.take i).find? (λh=>h.1==y)).map bM)
 (λa y=> ∃f c,(∀z:ay,f (bh z)=(a.2.1.find? (λh=>h.1==z)).map bM)/\y=(.exit 0,⟨59,[(0,xE a.1),(1,xF a.1),(5,.ref 0 0 0),(6,.ref 1 0 0),(10,.mp 2 0)],[(0,⟨0,none,bxS a.2.2⟩),(1,⟨0,none,.box 30 [iD 0,iD 0]⟩),(2,⟨0,none,mpS f c⟩)]⟩))
 (by
  rintro⟨l,m,x⟩ ⟨f,c⟩ i ae h0 bK aQ ⟨⟨hm,kY⟩,hf⟩ hn ho;dsimp only at*
  (rw[<-Vg];delta B3 Z7 rA Bb iP iQ yh Ff Z7E Vc Zt yj IP Fg Z7D Z7B ZA fR vV Ve iN Vf bP qN qM NP oq NQ Za Z9 Zw xG Fh Fj Rg)
  have e1:D.nth (m.map bM) i.toNat=bM m[i.toNat]:=ax _ _ _ aQ;have jS:m.take (i.toNat+1)=m.take i.toNat++[m[i.toNat]]:=zae aQ;have hnk: ∀z∈m.take i.toNat,z.1≠m[i.toNat].1:=by
   intro z hz he;have:(m.take (i.toNat+1)).map (·.1)|>.Nodup:=(kY.sublist ((zda _ _).map _))
   rw[jS,zau,za6] at this;exact this.2.2 z.1 (za8 hz) _ (by simp) he
  rw[e1];generalize m[i.toNat]=g at jS hnk;have t1:D.agg [D.int .i64 (D.aj (D.ar (bM g) 0)),D.int .i64 (D.aj (D.ar (bM g) 1))]=bh g.1:=rfl;have t2:D.agg [D.int .i64 (D.aj (D.ar (bM g) 0)),D.int .i64 (D.aj (D.ar (bM g) 1)),D.int .i64 (D.aj (D.ar (bM g) 2)),D.int .i64 (D.aj (D.ar (bM g) 3))]=bM g:=rfl;refine bn bK (ao ⟨h0,bK⟩ (ao (by simpa using aQ) (aq (qbQ _) (ao (by omega) ?_))));refine hn (_,_) ⟨⟨hm,kY⟩,λy=> ?_⟩;show(bif D.pg (bh g.1) (bh y) then some (bM g) else f (bh y))=_;rw[V3,hf y,jS,List.find?_append];by_cases hy:g.1=y
  ·subst hy;rw[show(g.1==g.1)=true by simp,zb1];rw[show(m.take i.toNat).find? (λh=>h.1==g.1)=none from by rw[zch];intro z hz;simpa using hnk z hz];simp
  rw[show(g.1==y)=false by simpa using hy,zbq];simp[hy])
 (by
  rintro⟨l,m,x⟩ ⟨f,c⟩ i ae hi ⟨⟨hm,kY⟩,hf⟩ ho;dsimp only at*
  (rw[<-Vg];delta B3 Z7 rA Bb iP iQ yh Ff Z7E Vc Zt yj IP Fg Z7D Z7B ZA fR vV Ve iN Vf bP qN qM NP oq NQ Za Z9 Zw xG Fh Fj Rg)
  refine jU (by omega) (ho _ (λh=>by cases h) ⟨f,c,?_,rfl⟩);rw[zaj] at hf;exact hf)
 (by rintro s ae ⟨l,m,x,rfl,h1,hp⟩;refine⟨(l,m,x),(λ_=>none,0),rfl,⟨h1,λy=>rfl⟩,?_⟩;rintro y ⟨f,c,h3,rfl⟩;exact hp f c h3)
theorem qb8:LD X 37 10 (ah (aK 37 10) qgp):=LD.idx (H:=[]) (hk:=[]) (by kernel_rfl) (by kernel_rfl) .nil .nil
 (A:=List Hd×ay×(D->Option D)×Int×Int) (B:=ay×Bool) (λa b i=>er2 b.1 b.2 a.2.2.1 a.2.2.2.1 a.2.2.2.2 i) (λa=>a.1.length+1)
 (λa n b=>(a.2.2.2.2=(a.1.length:Int)+1/\a.1.length<=1000000/\ ∀y:ay,a.2.2.1 (bh y)=(a.1.find? (λh=>h.1==y)).map bM)/\n<=a.1.length+1/\mG a.1 a.2.1=ku a.1 (a.1.length+1-n) b.1 b.2)
 (λa y=>(∃e r ev,mG a.1 a.2.1=(e,r,ev)/\y=(.ret,⟨59,[(6,.ref 0 0 0),(7,.d (.bool ev)),(8,iD e)],[(0,⟨0,none,bxS r⟩)]⟩))\/(mG a.1 a.2.1=(11,(0,0),false)/\ ∃ev:Bool,y=(.exit 2,⟨59,[(6,.ref 0 0 0),(7,.d (.bool ev))],[(0,⟨0,none,.box 30 [iD 0,iD 0]⟩)]⟩)))
 (by
  rintro⟨l,x0,f,c,N⟩ ⟨x,ev⟩ n ae h0 tf R6 ⟨⟨hN,hm,hf⟩,hn1,hr⟩ hn ho;dsimp only at*
  (rw[<-V1];delta B3 Z7 rA Bb ZA Zk Zm Ve lX iN Vf bP qN Za Z9 Zw iP iQ yh Ff NW tu dV uy yn Z8W Z3 Z90 Z91 Zi)
  have hfu:l.length+1-n.toNat=(l.length-n.toNat)+1:=by omega
  rw[hfu] at hr;rw[show f (D.agg [D.int .i64 x.1,D.int .i64 x.2])=(l.find? (λh=>h.1==x)).map bM from hf x];refine bn (by omega) ?_;cases hg:l.find? (λh=>h.1==x) with
  |none=>have z0:cJ ((none:Option Hd).map bM) (D.agg [D.int .i64 0,D.int .i64 0,D.int .i64 0,D.int .i64 0])=bM KH:=rfl;rw[z0];refine aq (qbQ _) (aA (λ_=>ho _ (λh=>by cases h) (.inl ⟨111,(0,0),false,?_,rfl⟩)) λh=>by simp at h);rw[hr,LF hg]
  |some g=>
   have z0:cJ ((some g).map bM) (D.agg [D.int .i64 0,D.int .i64 0,D.int .i64 0,D.int .i64 0])=bM g:=rfl;rw[z0,show(D.aj (D.ar (bM g) 2)==0&&(D.aj (D.ar (bM g) 3)==0&&true))=(g.2==(0,0)) from Lp g.2 (0,0)];refine aq (qbQ _) (aA (λh=>by simp at h) λ_=>aA (λhu=>ho _ (λh=>by cases h) (.inl ⟨0,x,ev,?_,rfl⟩)) λhu=>ao (by omega) (hn (g.2,!ev) ⟨⟨hN,hm,hf⟩,by omega,?_⟩))
   ·rw[hr,Qi hg (by simpa using hu)]
   rw[hr,LG hg (by simpa using hu)];congr 1;omega)
 (by
  rintro⟨l,x0,f,c,N⟩ ⟨x,ev⟩ n ae tf ⟨⟨hN,hm,hf⟩,hn1,hr⟩ ho;dsimp only at*
  (rw[<-V1];delta B3 Z7 rA Bb ZA Zk Zm Ve lX iN Vf bP qN Za Z9 Zw iP iQ yh Ff NW tu dV uy yn Z8W Z3 Z90 Z91 Zi)
  refine jU (by omega) (ho _ (λh=>by cases h) (.inr ⟨?_,ev,rfl⟩));rw[hr,Nat.sub_self];rfl)
 (by
  rintro s ae ⟨l,x,f,c,n,rfl,h1,h2,h3⟩;refine⟨(l,x,f,c,n),(x,true),rfl,⟨h1,by omega,rfl⟩,?_⟩;rintro y (⟨e,r,ev,h4,rfl⟩| ⟨h4,ev,rfl⟩)
  ·exact h2 e r ev h4
  exact h3 h4 ev)
theorem qlJ:FD X 37 hEr:=FD.mk (H:=[(68,Ax)]) (hk:=[(4,ah (aK 37 4) qgo),(10,ah (aK 37 10) qgp)]) (by kernel_rfl) (.cons NT .nil) (.cons qb7 (.cons qb8 .nil)) (by
 intro ps R ae hh;obtain⟨l,x,rfl,rfl,⟨hm,kY⟩,hp⟩:=hh
 (rw[<-qlI];delta Z3 Z7 Z8Z Zk Zm Zn dV iP iQ nb Z8Y fR vV B3 rA Bb yh Ff Z7E Ve ZW iN Vf bP qN Za qM oq Yu Z9 pZ V2 Vc PW NP NQ Z92 Zo Z7X)
 have Il:(lR l).Perm l:=by unfold lR;rw[M7 kY];exact bU _
 simp only[zaa];refine⟨l,rfl,rfl,hm,λm Yg=>⟨l,m,x,rfl,⟨by rw[Yg,Il.length_eq];exact hm,by rw[Yg];exact(Il.map (·.1)).nodup_iff.2 kY⟩,λf c hf=>ao (by omega) ⟨l,x,f,c,_,rfl,⟨by omega,hm,λy=> ?_⟩,λe r ev h=>hp e r ev h,λh ev=>hp _ _ _ h⟩⟩⟩;rw[hf y,Yg,Pz kY Il y];cases l.find? (λh:Hd=>h.1==y)<;>rfl)
end
abbrev arI(z:Bool)(v:List Int):Obj:= .arr 3 z (aY v)
abbrev hvH(m:List ak)(v:List Int)(i:Int):S:=⟨33,[(3,.sl 0 0 16),(8,.sl 1 0 m.length),(9,iD (m.length:Int)),(10,iD i)],[(0,⟨0,none,arI false v⟩),(1,⟨0,none,pb false m⟩)]⟩
def Dn(m:List ak):Nat×En:=(1,tv m)
def Bi(m:List ak):P:=P.d (D.int .i64 (l4 m))
def vd(m:List ak):P:=P.sl 1 0 (dn m)
def Z96:Nat×P:=(3,P.sl 0 0 16)
def Z95(m:List ak)(i:Int):Bool:=decide ((0:Int)<=la m i-(1:Int)/\la m i-(1:Int)<(16:Int))
def Z94(m:List ak)(i:Int):Bool:=decide (Z9<=la m i-(1:Int)/\la m i-(1:Int)<=Za)
theorem qdF(m:List ak)(v:List Int)(i:Int)(ae:PX×S->Prop):(bif Ga i m then ob (u9 i m) (ob (sT i m) (ob (dM m i) (ob (Z94 m i) (ob (Z94 m i) (ob (Z95 m i) (ob (decide (Int.toNat (la m i-(1:Int))<List.length (aY v))) (ob (cw PR (3:TypeId) (D.nth (aY v) (Int.toNat (la m i-(1:Int))))) (ob (Z95 m i) (ob (decide (Int.toNat (la m i-(1:Int))<List.length (aY v))) (ob (cw PR (3:TypeId) (D.nth (aY v) (Int.toNat (la m i-(1:Int))))) (ob (Zw i) (ae (PX.normal,S.mk 33 [Z96,(8,vd m),(9,Bi m),(10,P.d (ZA i))] [(0,En.mk 0 none (Obj.arr (3:TypeId) false (List.set (aY v) (Int.toNat (la m i-(1:Int))) (D.aP (D.int .i64 (D.aj (D.nth (aY v) (Int.toNat (la m i-(1:Int)))))) [D.int .i64 (max (D.aj (D.nth (aY v) (Int.toNat (la m i-(1:Int))))) (F9 m i))])))),Dn m]))))))))))))) else ae (PX.exit 0,S.mk 33 [Z96] (ZO v)))=(aD [] [] 27 3 (hvH m v i)) ae:=by kernel_rfl
def nc(m:List ak):Prop:=m.length<=1000000/\ ∀g∈m,1<=g.s.2/\g.s.2<=16/\1<=g.s.1/\g.s.1<=1099511627776/\1<=g.n/\g.n<=1099511627776
def gHv:S->K (PX×S):=λst ae=> ∃m,st=hvH m (List.replicate 16 0) 0/\nc m/\ ∀v,v=sK m->ae (.exit 0,⟨33,[(3,.sl 0 0 16)],[(0,⟨0,none,arI false v⟩)]⟩)
def Fm:bg:=λps R ae=> ∃v,ps=[vD v]/\R=[]/\v.length<=1000000/\ ∀w,w=bk v->ae (vD w,[])
def Z9b(bz:List ak):S:=S.mk 33 [Z96,(8,vd bz),(9,Bi bz),(10,P.d Z7)] [(0,En.mk 0 none (Obj.arr (3:TypeId) false (Z7::Z7::Z7::Z7::Z7::Z7::Z7::Z7::Z7::Z7::Z7::Z7::Z90))),Dn bz]
def jl(au:List ak):List P:=[ct au]
theorem qlK(l:List ak)(ae:P×List (Nat×En)->Prop):(∃(au:List ak),jl l=jl au/\Zo/\lY au/\ ∀(m:List ak),m=aw au-> ∃(bz:List ak),Z9b m=Z9b bz/\nc bz/\ ∀(v:List Int),v=sK bz-> ∃(cT:List Int),[P.d (D.sl 1 (List.take 16 (aY v)))]=wT cT/\Zo/\JH cT/\ ∀(w:List Int),w=bk cT->ae (Zx w,[]))=(aJ [(30,uD),(45,Fm)] [(3,ah (aK 27 3) gHv)] 27 [bp l] []) ae:=by kernel_rfl
def hHv:bg:=λps R ae=> ∃l,ps=[bp l]/\R=[]/\lY l/\ ∀v,v=xr (aw l)->ae (vD v,[])
abbrev hnH(r:Int)(v:List Int)(m:List ak)(t i:Int):S:=⟨50,[(1,iD r),(4,.ref 0 0 0),(6,iD t),(7,vD v),(21,.sl 3 0 m.length),(22,iD (m.length:Int)),(23,iD i)],[(0,⟨0,none,.box 34 [iD 0,iD 0,iD 0,.sl 1 0 0,iD 0,iD 0,.sl 2 0 0]⟩),(1,⟨0,none,arI false []⟩),(2,⟨0,none,.arr 54 false []⟩),(3,⟨0,none,pb false m⟩)]⟩
def Z9d:Nat×En:=(2,En.mk 0 none (Obj.arr (54:TypeId) false []))
def Z9c:Nat×En:=(0,En.mk 0 none (Obj.box (34:TypeId) [P.d Z7,P.d Z7,P.d Z7,rE,P.d Z7,P.d Z7,P.sl 2 0 0]))
def Z9f:List (Nat×En):=[Z9c,(1,Z12),Z9d]
def Z9e(m:List ak):List (Nat×En):=[Z9c,(1,Z12),Z9d,(3,tv m)]
theorem qdG(r:Int)(v:List Int)(m:List ak)(t i:Int)(ae:PX×S->Prop):(bif Ga i m then ob (u9 i m) (ob (sT i m) (ob (dM m i) (ob (Zw i) (ae (PX.normal,S.mk 50 [ZP r,BW,(6,P.d (D.int .i64 (max t (D.aj (D.ar (gT m i) 0))))),(7,Zx v),(21,P.sl 3 0 (dn m)),(22,Bi m),(23,P.d (ZA i))] (Z9e m)))))) else ae (PX.exit 0,S.mk 50 [ZP r,BW,ZS t,(7,Zx v)] Z9f))=(aD [] [] 12 5 (hnH r v m t i)) ae:=by kernel_rfl
def gHn:S->K (PX×S):=λst ae=> ∃r v m,st=hnH r v m 0 0/\nc m/\ ∀t,t=fj m->ae (.exit 0,⟨50,[(1,iD r),(4,.ref 0 0 0),(6,iD t),(7,vD v)],[(0,⟨0,none,.box 34 [iD 0,iD 0,iD 0,.sl 1 0 0,iD 0,iD 0,.sl 2 0 0]⟩),(1,⟨0,none,arI false []⟩),(2,⟨0,none,.arr 54 false []⟩)]⟩)
def Z9h:List D:=[Z7,Z7,D.sl 18 []]
def Z9m(t:Int)(ae:P×List (Nat×En)->Prop)(bT:Int)(n:Int)(cT:List Int):Prop:=ob (Zw t) (ae (P.cH (P.d (D.agg (ZA t::Zk bT::ZA n::D.sl 1 (aY cT)::Z9h))::rA),[]))
def NX:D:=D.sl 1 []
def Z9i:P:=P.d (D.agg (Z7::Z7::Z7::NX::Z9h))
def Z9l(ae:P×List (Nat×En)->Prop):Prop:=ae (P.cH [Z9i,P.d Z3N],[])
def Z9k(bT:Int)(cT:List Int)(bz:List ak):S:=S.mk 50 [ZP bT,BW,(6,P.d Z7),(7,Zx cT),(21,P.sl 3 0 (dn bz)),(22,Bi bz),(23,P.d Z7)] (Z9e bz)
def Z9j(ae:P×List (Nat×En)->Prop):Prop:=ae (P.cH (Z9i::Z14),[])
theorem qlL(l:List ak)(r:Int)(ae:P×List (Nat×En)->Prop):(bif Z6 r then Z9j ae else bif Z15 r then Z9j ae else∃(au:List ak),jl l=jl au/\Zo/\lY au/\ ∀(v:List Int),v=xr (aw au)-> ∃(eD:List ak),jl l=jl eD/\Zo/\lY eD/\ ∀(m:List ak),m=aw eD-> ∃(bT:Int) (cT:List Int) (bz:List ak),Z9k r v m=Z9k bT cT bz/\nc bz/\ ∀(t:Int),t=fj bz-> ∃(v:List Int) (r:Int),Zx cT::Zn bT=Zx v::Zn r/\Zo/\JH v/\ ∀(n:Int),n=eK v r->ob (Zw n) (ob (Zw t) (bif decide (max (t+(1:Int)) (n+(1:Int))>Z1) then Z9l ae else Z9m t ae bT n cT)))=(aJ [(30,uD),(27,hHv),(31,IF)] [(5,ah (aK 12 5) gHn)] 12 [bp l,iD r] []) ae:=by kernel_rfl
def hHn:bg:=λps R ae=> ∃l r,ps=[bp l,iD r]/\R=[]/\lY l/\ ∀g e,g=nQ (aw l) r->e=lU (aw l) r->ae (.cH [.d (aR g),iD e],[])
def LH:bg:=λps R ae=> ∃v r n,ps=[vD v,iD r,iD n]/\R=[]/\(v.length<=1000000/\1<=r/\r<=16)/\ ∀w,w=bk (gQ v r n)->ae (.cH [vD w,iD 0],[])
def Z9o(QT:List Int)(r:Int):Prop:=JH QT/\(1:Int)<=r/\r<=(16:Int)
theorem Qj{g:ak}(h:cy g=true):1<=g.s.2/\g.s.2<=16/\1<=g.s.1/\g.s.1<=1099511627776/\1<=g.n/\g.n<=1099511627776:=by unfold cy TE at h;simp only[zab,vF,zai] at h;omega
theorem Az{l:List ak}(h:l.length<=1000000):nc (aw l):=by have:=dP l;exact⟨by omega,λg hg=>Qj (gI g hg)⟩
theorem nc.sub{m k:List ak}(h:nc m)(hs: ∀g∈k,g∈m)(hl:k.length<=1000000):nc k:=⟨hl,λg hg=>h.2 g (hs g hg)⟩
theorem qb9(v:List Int)(i:Nat)(h:i<v.length):D.nth (aY v) i= .int .i64 (v.getD i 0):=by rw[aY,ax _ _ _ h,dW h]
theorem qca(v:List Int)(i:Nat)(n:Int):(aY v).set i (.int .i64 n)=aY (v.set i n):=by simp[aY,zcd]
section
variable{X:XF}
theorem V4:FD X 45 Fm:=MX.weaken λps R ae h=>by obtain⟨v,rfl,rfl,hs,hp⟩:=h;exact⟨v,rfl,rfl,hs,hp _ rfl⟩
theorem qcb:FD X 46 LH:=qaP.weaken λps R ae h=>by obtain⟨v,r,n,rfl,rfl,⟨hs,h1,h2⟩,hp⟩:=h;exact⟨v,r,n,rfl,rfl,hs,λh=>absurd ⟨h1,h2⟩ h,λ_=>hp _ rfl⟩
theorem qgq:LD X 27 3 (ah (aK 27 3) gHv):=LD.idx (H:=[]) (hk:=[]) (by kernel_rfl) (by kernel_rfl) .nil .nil
 (A:=List ak) (B:=List Int) (λm v i=>hvH m v i) (λm=>m.length) (λm i v=>nc m/\v=sK (m.take i))
 (λm x=>x=(.exit 0,⟨33,[(3,.sl 0 0 16)],[(0,⟨0,none,arI false (sK m)⟩)]⟩))
 (by
  rintro m v i ae h0 bK aQ ⟨hr,hv⟩ hn ho
  (rw[<-qdF];delta ZO cg tv Dn Zt gT F9 ZA dn l4 Bi vd Z96 Za Z9 Zw la Z95 Z94 dM gi sT u9 Ga)
  have e1:D.nth (m.map aR) i.toNat=aR m[i.toNat]:=ax _ _ _ aQ;have hg:=hr.2 _ (zaq aQ);have Y6:=hr.1;have j8:=λ(h1:1<=(m[i.toNat]'aQ).s.2) (h2:(m[i.toNat]'aQ).s.2<=16)=>TJ (l:=m.take i.toNat) (g:=m[i.toNat]'aQ) h1 h2;rw[<-zae aQ,<-hv] at j8;rw[e1];generalize m[i.toNat]=g at hg j8;have hvl:v.length=16:=by rw[hv,iq]
  have c1:D.aj (D.ar (aR g) 1)=g.s.2:=rfl;have c2:D.aj (D.ar (aR g) 2)=g.n:=rfl;rw[c1,c2,qb9 v _ (by omega)];have w1: ∀a b:Int,D.aP (D.int .i64 a) [D.int .i64 b]= .int .i64 b:=λ_ _=>rfl;have v1: ∀a:Int,D.aj (.int .i64 a)=a:=λ_=>rfl;rw[v1,w1,qca,j8 hg.1 hg.2.1];have j7:(-9223372036854775808:Int)<=g.s.2-1/\g.s.2-1<=9223372036854775807:=by omega
  have cu:(0:Int)<=g.s.2-1/\g.s.2-1<((16:Nat):Int):=by omega
  have ma:(g.s.2-1).toNat<(aY v).length:=by simp[aY];omega
  refine bn bK (ao ⟨h0,bK⟩ (ao (by simpa using aQ) (aq (fh _) (ao j7 (ao j7 (ao cu (ao ma (aq (B4 _) (ao cu (ao ma (aq (B4 _) (ao (by omega) (hn _ ⟨hr,rfl⟩))))))))))))))
 (by
  rintro m v i ae hi ⟨hr,hv⟩ ho
  (rw[<-qdF];delta ZO cg tv Dn Zt gT F9 ZA dn l4 Bi vd Z96 Za Z9 Zw la Z95 Z94 dM gi sT u9 Ga)
  refine jU (by omega) (ho _ (λh=>by cases h) ?_);rw[hv,zaj])
 (by rintro s ae ⟨m,rfl,hs,hp⟩;refine⟨m,_,rfl,⟨hs,TK.symm⟩,?_⟩;rintro x rfl;exact hp _ rfl)
theorem qlM:FD X 27 hHv:=FD.mk (H:=[(30,uD),(45,Fm)]) (hk:=[(3,ah (aK 27 3) gHv)]) (by kernel_rfl) (.cons NM (.cons V4 .nil)) (.cons qgq .nil) (by
 intro ps R ae hh;obtain⟨l,rfl,rfl,hs,hp⟩:=hh
 (rw[<-qlK];delta Zx JH wT cg tv Dn Z7 Z90 dn l4 Bi vd Z96 Z9b Zo ct jl)
 refine⟨l,rfl,rfl,hs,λm hm=>⟨m,rfl,by rw[hm];exact Az hs.1,λv hv=>⟨v,?_,rfl,?_,λw hw=>hp w ?_⟩⟩⟩
 ·have e:List.take 16 (aY v)=aY v:=zal (by simp[aY,hv,iq]);rw[e]
 ·rw[hv,iq];omega
 rw[hw,hv,hm];rfl)
theorem IX{m:List ak}{i:Nat}(h:i<m.length):fj (m.take (i+1))=max (fj (m.take i)) m[i].s.1:=by rw[zae h,H9]
theorem qgr:LD X 12 5 (ah (aK 12 5) gHn):=LD.idx (H:=[]) (hk:=[]) (by kernel_rfl) (by kernel_rfl) .nil .nil
 (A:=Int×List Int×List ak) (B:=Int) (λa t i=>hnH a.1 a.2.1 a.2.2 t i) (λa=>a.2.2.length) (λa i t=>nc a.2.2/\t=fj (a.2.2.take i))
 (λa x=>x=(.exit 0,⟨50,[(1,iD a.1),(4,.ref 0 0 0),(6,iD (fj a.2.2)),(7,vD a.2.1)],[(0,⟨0,none,.box 34 [iD 0,iD 0,iD 0,.sl 1 0 0,iD 0,iD 0,.sl 2 0 0]⟩),(1,⟨0,none,arI false []⟩),(2,⟨0,none,.arr 54 false []⟩)]⟩))
 (by
  rintro⟨r,v,m⟩ t i ae h0 bK aQ ⟨hr,ht⟩ hn ho
  try dsimp only at*
  (rw[<-qdG];delta Z9d Z12 rE Z7 Z9c Z9f Zk Zm ZS cg tv Z9e ZA dn l4 Bi Zx Zt gT bP BW ZP Za Z9 Zw dM gi sT u9 Ga)
  have e1:D.nth (m.map aR) i.toNat=aR m[i.toNat]:=ax _ _ _ aQ;have Y6:=hr.1;have DY:=IX aQ;rw[e1];generalize m[i.toNat]=g at DY;refine bn bK (ao ⟨h0,bK⟩ (ao (by simpa using aQ) (aq (fh _) (ao (by omega) (hn _ ⟨hr,?_⟩)))));rw[DY,<-ht];rfl)
 (by
  rintro⟨r,v,m⟩ t i ae hi ⟨hr,ht⟩ ho
  try dsimp only at*
  (rw[<-qdG];delta Z9d Z12 rE Z7 Z9c Z9f Zk Zm ZS cg tv Z9e ZA dn l4 Bi Zx Zt gT bP BW ZP Za Z9 Zw dM gi sT u9 Ga)
  refine jU (by omega) (ho _ (λh=>by cases h) ?_);rw[ht,zaj];rfl)
 (by rintro s ae ⟨r,v,m,rfl,hs,hp⟩;refine⟨(r,v,m),0,rfl,⟨hs,rfl⟩,?_⟩;rintro x rfl;exact hp _ rfl)
end
theorem Dp{l:List ak}{r:Int}(h: ¬(1<=r/\r<=16)):lU l r=1:=by unfold lU;rw[zap h]
theorem Dq{l:List ak}{r:Int}(h:lU l r≠0):nQ l r=noG:=by unfold nQ;rw[zan h]
theorem V5{l:List ak}{r:Int}(h:1<=r/\r<=16):lU l r=if max (fj l+1) (x8 l r+1)>1099511627776 then 2 else 0:=by unfold lU;rw[zan (by simpa using h)]
section
variable{X:XF}
theorem qjy:FD X 12 hHn:=FD.mk (H:=[(30,uD),(27,hHv),(31,IF)]) (hk:=[(5,ah (aK 12 5) gHn)]) (by kernel_rfl) (.cons NM (.cons qlM (.cons qds .nil))) (.cons qgr .nil) (by
 intro ps R ae hh;obtain⟨l,r,rfl,rfl,hs,hp⟩:=hh
 (rw[<-qlL];delta Z7 rA Z9h Zk ZA Za Z9 Zw Z9m Z3N NX Z9i Z9l Z1 JH Zm Zn Zx cg tv Z9d Z12 rE Z9c Z9e dn l4 Bi bP BW ZP Z9k Zo ct jl Z15 Zg Z14 Z9j Z6)
 have qjz: ¬(1<=r/\r<=16)->ae (.cH [.d (aR noG),iD 1],[]):=λh=>hp _ _ (Dq (by rw[Dp h];omega)).symm (Dp h).symm;refine cr (λh1=>qjz (by omega)) λh1=>cr (λh2=>qjz (by omega)) λh2=>⟨l,rfl,rfl,hs,λv hv=>⟨l,rfl,rfl,hs,λm hm=>⟨r,v,m,rfl,by rw[hm];exact Az hs.1,λt ht=>⟨v,r,rfl,rfl,?_,λn hn=> ?_⟩⟩⟩⟩
 ·rw[hv];have:=TL (aw l);omega
 have uF:=Az hs.1;have BE:=gf m;have ht3:fj m<=1099511627776:=Ac (by omega) m λg hg=>by rw[hm] at hg;exact(uF.2 g hg).2.2.2.1
 have X8:n=x8 m r:=by rw[hn,hv,M9 _ _ (by omega) (by omega),hm]
 have hn3:0<=x8 m r:=lT m r;have hn4:x8 m r<=1099511627776:=Ab m 0 (by omega) λg hg=>by rw[hm] at hg;exact(uF.2 g hg).2.2.2.2.2
 have hE:=V5 (l:=m) (r:=r) ⟨by omega,by omega⟩;rw[<-hm] at hp;refine ao (by omega) (ao (by omega) (cr (λh3=> ?_) λh3=>ao (by omega) ?_))
 ·rw[zap (by rw[<-ht,<-X8];exact h3)] at hE;exact hp _ _ (Dq (by rw[hE];omega)).symm hE.symm
 rw[zan (by rw[<-ht,<-X8];exact h3)] at hE;have hX:nQ m r=Na m r:=by unfold nQ;rw[zap hE]
 have:=hp _ _ rfl rfl;rw[hX,hE] at this;rw[ht,X8,hv,<-hm];exact this)
end
def Z9z(o:List ak)(x:ak):En:=En.mk 0 none (Obj.arr (34:TypeId) false (List.map aR (o++[x])))
theorem w8{m:List ak}{i:Nat}(h:i<m.length)(t:ak->Bool):(m.take (i+1)).filter t=(m.take i).filter t++(if t m[i]=true then [m[i]] else []):=by
 rw[zae h,zbw];congr 1;by_cases ht:t m[i]=true
 ·rw[zap ht];simp[ht]
 rw[zan ht];simp[ht]
section
variable{X:XF}
end
abbrev bxN(n:Nat)(r:Int):Nat×En:=(n,⟨0,some n,.box 3 [iD r]⟩)
def nW(r:Int)(x:ak):Bool:=x.s.2 !=r
def IY:bg:=λps R ae=> ∃(x:ak) (r:Int),ps=[.d (aR x),.ref 0 0 0]/\R=[bxN 0 r]/\ae (.d (.bool (nW r x)),[bxN 0 r])
theorem qgs(x:ak)(r:Int)(ae:P×List (Nat×En)->Prop):(ae (P.d (D.bool (Prod.snd (ak.s x) !=r)),[(0,En.mk 0 (some 0) (Obj.box 3 [P.d (D.int IntKind.i64 r)]))]))=(aJ [] [] 63 [.d (aR x),.ref 0 0 0] [bxN 0 r]) ae:=by kernel_rfl
abbrev V6(m:List ak)(r:Int):List (Nat×En):=[(0,⟨0,some 0,pb false m⟩),bxN 1 r]
abbrev Fo:P:= .fn 63 [.ref 1 0 0]
abbrev ixO(m:List ak)(r n k:Int):S:=⟨19,[(0,.sl 0 0 m.length),(1,Fo),(7,iD n),(8,iD k)],V6 m r⟩
abbrev oxO(m:List ak)(r:Int)(i:Int):PX×S:=(.ret,⟨19,[(0,.sl 0 0 m.length),(1,Fo),(4,iD i)],V6 m r⟩)
abbrev oxE(m:List ak)(r:Int):PX×S:=(.exit 0,⟨19,[(0,.sl 0 0 m.length),(1,Fo)],V6 m r⟩)
def Z9D(bT:Int):List (Nat×En):=[(1,En.mk 0 (some 1) (Obj.box (3:TypeId) (Zn bT)))]
def Bj(m:List ak)(bT:Int):List (Nat×En):=Lz m::Z9D bT
def NY:Nat×P:=(1,P.fn (63:FuncId) [iN])
def Z9B(bT:Int):List (Nat×En):=[(0,En.mk 0 (some 0) (Obj.box (3:TypeId) (Zn bT)))]
theorem qdH(m:List ak)(r n k:Int)(ae:PX×S->Prop):(bif Zi k n then ob (u9 k m) (ob (sT k m) (ob (dM m k) (∃(x:ak) (bT:Int),[P.d (D.agg (B2 m k)),bP]=[jz x,bP]/\Z9B r=Z9B bT/\bif nW bT x then ae (PX.ret,S.mk 19 (pB m::NY::BV k) (Bj m bT)) else ob (Zw k) (ae (PX.normal,S.mk 19 (pB m::NY::o5 n::pW k) (Bj m bT)))))) else ae (PX.exit 0,S.mk 19 [pB m,NY] (Bj m r)))=(aD [(63,IY)] [] 96 2 (ixO m r n k)) ae:=by kernel_rfl
def qgt:S->K (PX×S):=λs ae=> ∃m r,s=ixO m r (m.length:Int) 0/\m.length<=1000000/\(∀(i:Int) (hi:i.toNat<m.length),0<=i->nW r m[i.toNat]=true->(∀j (hj:j<i.toNat),nW r (m[j]'(by omega))=false)->ae (oxO m r i))/\((∀j (hj:j<m.length),nW r m[j]=false)->ae (oxE m r))
def Z9G(bz:List ak)(bT:Int):Prop:= ∀(j:Nat) (hj:j<List.length bz),nW bT bz[j]=false
def Z9F(bz:List ak)(bT:Int):S:=S.mk 19 (pB bz::NY::(7,Bi bz)::tu) (Bj bz bT)
theorem qgu(m:List ak)(r:Int)(ae:P×List (Nat×En)->Prop):(∃(bz:List ak) (bT:Int),Z9F m r=Z9F bz bT/\iR bz/\(∀(i:Int) (hi:Int.toNat i<List.length bz),(0:Int)<=i->nW bT bz[Int.toNat i]=true->(∀(j:Nat) (hj:j<Int.toNat i),nW bT bz[j]=false)->ae (Zm i,Bj bz bT))/\(Z9G bz bT->ae (Ze,Bj bz bT)))=(aJ [] [(2,ah (aK 96 2) qgt)] 96 [.sl 0 0 m.length,Fo] (V6 m r)) ae:=by kernel_rfl
def qgv:bg:=λps R ae=> ∃m r,ps=[.sl 0 0 m.length,Fo]/\R=V6 m r/\m.length<=1000000/\(∀(i:Int) (hi:i.toNat<m.length),0<=i->nW r m[i.toNat]=true->(∀j (hj:j<i.toNat),nW r (m[j]'(by omega))=false)->ae (iD i,V6 m r))/\((∀j (hj:j<m.length),nW r m[j]=false)->ae (iD (-1),V6 m r))
abbrev dlH(q:List ak)(n:Nat)(r i k:Int):S:=⟨42,[(0,.sl 0 0 n),(1,Fo),(5,iD i),(6,iD k)],V6 q r⟩
theorem qlN(q:List ak)(n:Nat)(r i k:Int)(ae:PX×S->Prop):(bif T0 k n then ob (l8 k n) (ob (sT k q) (ob (dM q k) (∃(x:ak) (bT:Int),[P.d (D.agg (B2 q k)),bP]=[jz x,bP]/\Z9B r=Z9B bT/\bif !nW bT x then ob (l8 i n) (ob (sT i q) (ob (dM q i) (ob (Zw i) (ob (Zw k) (ae (PX.normal,S.mk 42 (r4 n::NY::(5,P.d (ZA i))::ZL k) ((0,En.mk 0 (some 0) (Obj.arr (34:TypeId) false (List.set (cg q) (Zt i) (D.aP (D.agg (B2 q i)) (B2 q k)))))::Z9D bT))))))) else ob (Zw k) (ae (PX.normal,S.mk 42 (r4 n::NY::B6 i::ZL k) (Bj q bT)))))) else ae (PX.exit 0,S.mk 42 [r4 n,NY,B6 i] (Bj q r)))=(aD [(63,IY)] [] 62 5 (dlH q n r i k)) ae:=by kernel_rfl
def AA(r:Int)(x:ak):Bool:=x.s.2==r
abbrev dlE(q:List ak)(n:Nat)(r i:Int):PX×S:=(.exit 0,⟨42,[(0,.sl 0 0 n),(1,Fo),(5,iD i)],V6 q r⟩)
structure qgw(m:List ak)(r i k:Int):Prop where
 len:m.length<=1000000
 i0:0<=i
 ik:k=i+1
 kl:k<=m.length
 eq:(m.take k.toNat).filter (AA r)=m.take i.toNat
def gDl:S->K (PX×S):=λs ae=> ∃m r i k,s=dlH m m.length r i k/\qgw m r i k/\ ∀(o:List ak) (i':Int),o=m.filter (AA r)->i'=o.length->o.length<=m.length->ae (dlE (o++m.drop o.length) m.length r i')
def Z9I(o:List ak)(LI:List ak):List D:=List.map aR (o++List.drop (dn o) LI)
def Z9H(bz:List ak):List P:=[lZ bz,P.fn (63:FuncId) [iN]]
theorem qjA(m:List ak)(r:Int)(ae:P×List (Nat×En)->Prop):(∃(bz:List ak) (bT:Int),Z9H m=Z9H bz/\Bj m r=Bj bz bT/\iR bz/\(∀(i:Int) (hi:Int.toNat i<List.length bz),(0:Int)<=i->nW bT bz[Int.toNat i]=true->(∀(j:Nat) (hj:j<Int.toNat i),nW bT bz[j]=false)->bif i==(-1:Int) then ae (lZ m,Bj bz bT) else ob (Zw i) (∃(LI:List ak) (r:Int) (bb:Int) (k:Int),S.mk 42 (pB m::NY::B6 i::ZL i) (Bj bz bT)=S.mk 42 (pB LI::NY::B6 bb::Bg k) (Bj LI r)/\qgw LI r bb k/\ ∀(o:List ak) (i':Int),o=List.filter (AA r) LI->i'=l4 o->dn o<=dn LI->ob (decide ((0:Int)<=i'/\i'<=l4 LI)) (ob (decide (Zt i'+(dn LI-Zt i')<=List.length (Z9I o LI))) (ob (decide ((0:Int)<=i'/\i'<=l4 LI)) (ae (P.sl 0 0 (Zt i'),(0,En.mk 0 (some 0) (Obj.arr (34:TypeId) false (List.take (Zt i') (Z9I o LI)++List.replicate (dn LI-Zt i') (D.agg [Z7,Z7,Z7,D.fk,Z7,Z7,D.fk])++List.drop (Zt i'+(dn LI-Zt i')) (Z9I o LI))))::Z9D r))))))/\(Z9G bz bT->ae (lZ m,Bj bz bT)))=(aJ [(96,qgv)] [(5,ah (aK 62 5) gDl)] 62 [.sl 0 0 m.length,Fo] (V6 m r)) ae:=by kernel_rfl
def hDl:bg:=λps R ae=> ∃m r,ps=[.sl 0 0 m.length,Fo]/\R=V6 m r/\m.length<=1000000/\ ∀(o:List ak) (tl:List D),o=m.filter (AA r)->ae (.sl 0 0 o.length,[(0,⟨0,some 0,.arr 34 false (o.map aR++tl)⟩),bxN 1 r])
def gtK(a b:ay):Bool:=jP b a
def LJ:bg:=NJ 65 34 aR (λg:ak=>g.s) gtK
def Z9J(l:List ak)(qcc:List D):List (Nat×En):=[(0,En.mk 0 (some 0) (Obj.arr (34:TypeId) false (cg l++qcc)))]
theorem qjB(l:List ak)(r:Int)(ae:P×List (Nat×En)->Prop):(∃(au:List ak),jl l=jl au/\Zo/\lY au/\ ∀(m:List ak),m=aw au-> ∃(bz:List ak) (bT:Int),Z9H m=Z9H bz/\Bj m r=Bj bz bT/\iR bz/\ ∀(o:List ak) (tl:List D),o=List.filter (AA bT) bz-> ∃(l:List ak) (qcc:List D),[lZ o,P.fn (65:FuncId) []]=[lZ l,P.fn (65:FuncId) []]/\Z9J o tl=Z9J l qcc/\iR l/\ ∀(l':List ak),List.Perm l' l->List.Pairwise (λ(a b:ak)=>gtK (ak.s b) (ak.s a)=false) l'->ae (P.fn (101:FuncId) [bP],[(0,En.mk 0 none (Obj.box (22:TypeId) [P.d (D.sl 7 (List.take (dn o) (cg l'++qcc)))]))]))=(aJ [(30,uD),(62,hDl),(64,LJ)] [] 36 [bp l,iD r] []) ae:=by kernel_rfl
def V7:bg:=λps R ae=> ∃l r,ps=[bp l,iD r]/\R=[]/\lY l/\ ∀o,o=bt (aw l) r->ae (.fn 101 [.ref 0 0 0],[(0,⟨0,none,.box 22 [.d (.sl 7 (o.map aR))]⟩)])
def qjC:bg:=λps R ae=> ∃a b:ak,ps=[.d (aR a),.d (aR b)]/\R=[]/\ae (iD (pL b.s.1 b.s.2 a.s.1 a.s.2),[])
theorem qgx(a b:ak)(ae:P×List (Nat×En)->Prop):(∃(t:Int) (r:Int) (t':Int) (r':Int),PQ b::Ln a=Zq t r t' r'/\Zo/\ae (P.d (D.int .i64 (pL t r t' r')),[]))=(aJ [(66,vG)] [] 65 [.d (aR a),.d (aR b)] []) ae:=by kernel_rfl
theorem AB{α:Type}{f:α->D}(hf: ∀{a b},f a=f b->a=b){l m:List α}(h:l.map f=m.map f):l=m:=(List.map_inj_right (f:=f) (λ_ _=>hf)).1 h
theorem qjD{a b:ay}(h:bh a=bh b):a=b:=by obtain⟨a1,a2⟩:=a;obtain⟨b1,b2⟩:=b;unfold bh iE at h;simp only[D.agg.injEq,zcV,D.int.injEq,zdi,zdj] at h;rw[h.1,h.2]
theorem qdI{a b:av}(h:bV a=bV b):a=b:=by obtain⟨a1,a2,a3⟩:=a;obtain⟨b1,b2,b3⟩:=b;unfold bV at h;simp only[D.agg.injEq,zcV,D.int.injEq,zdi,zdj] at h;rw[h.1,h.2.1,h.2.2]
theorem qgy{l m:List Int}(h:aY l=aY m):l=m:=AB (f:=D.int .i64) (λh=>by cases h;rfl) h
theorem qjE{a b:bc}(h:dC a=dC b):a=b:=by obtain⟨k,⟨n1,n2,n3⟩,⟨p1,p2,p3⟩,nm,dr,ds,⟨a1,a2,a3⟩,⟨e1,e2,e3⟩,tx,es⟩:=a;obtain⟨k',⟨n1',n2',n3'⟩,⟨p1',p2',p3'⟩,nm',dr',ds',⟨a1',a2',a3'⟩,⟨e1',e2',e3'⟩,tx',fG⟩:=b;unfold dC iE at h;simp only[D.agg.injEq,zcV,D.int.injEq,D.str.injEq,D.bool.injEq,D.sl.injEq,zdi,zdj] at h;obtain⟨rfl,rfl,rfl,rfl,rfl,rfl,rfl,rfl,rfl,h1,rfl,rfl,rfl,rfl,rfl,rfl,rfl,h2⟩:=h;rw[AB qjD h1,AB qdI h2]
theorem qdJ{a b:ak}(h:aR a=aR b):a=b:=by obtain⟨⟨s1,s2⟩,n,d,⟨u1,u2⟩,o⟩:=a;obtain⟨⟨s1',s2'⟩,n',d',⟨u1',u2'⟩,o'⟩:=b;unfold aR iE at h;simp only[D.agg.injEq,zcV,D.int.injEq,D.sl.injEq,zdi,zdj] at h;obtain⟨rfl,rfl,rfl,h1,rfl,rfl,h2⟩:=h;rw[qgy h1,AB qjE h2]
noncomputable def qgz(d:D):ak:=by classical exact if h: ∃g,aR g=d then h.choose else⟨(0,0),0,[],(0,0),[]⟩
theorem V8(g:ak):qgz (aR g)=g:=by
 have h: ∃x,aR x=aR g:=⟨g,rfl⟩
 unfold qgz;rw[zds h];exact qdJ h.choose_spec
theorem qP(r:Int)(x:ak):AA r x= !nW r x:=by unfold AA nW bne;rw[Bool.not_not]
theorem qgA:FC 65 qjC:=FC.mk (H:=[(66,vG)]) (by kernel_rfl) (.cons qdk .nil) (by
 intro ps R ae hh;obtain⟨a,b,rfl,rfl,hp⟩:=hh
 (rw[<-qgx];delta Zo Zk Zl Zq kg gY kh iy PQ Ln)
 exact⟨_,_,_,_,rfl,rfl,hp⟩)
theorem yo{m o:List ak}(h:o.length<=m.length):(o++m.drop o.length).length=m.length:=by simp;omega
theorem qcd{m o:List ak}{k:Nat}(hk:k<m.length)(h:o.length<=k):(o++m.drop o.length)[k]'(by rw[yo (by omega)];exact hk)=m[k]:=by rw[List.getElem_append_right h,List.getElem_drop];congr 1;omega
theorem qce{m o:List ak}{x:ak}(h:o.length<m.length):(o++m.drop o.length).set o.length x=(o++[x])++m.drop (o++[x]).length:=by rw[zcU _ _ (zak _),Nat.sub_self,zaM];congr 1;rw[za4 h,List.set_cons_zero];simp
theorem NZ{m o:List ak}{k:Nat}(hk:k<m.length)(h:o.length<=k):D.nth ((o++m.drop o.length).map aR) k=aR m[k]:=by rw[ax _ _ _ (by rw[yo (by omega)];exact hk),qcd hk h]
section
variable{X:XF}
theorem V9:FD X 63 IY:=FD.mk (H:=[]) (hk:=[]) (by kernel_rfl) .nil .nil (by intro ps R ae hh;obtain⟨x,r,rfl,rfl,hp⟩:=hh;rw[<-qgs];exact hp)
theorem qcf:LD X 96 2 (ah (aK 96 2) qgt):=
 LD.find (H:=[(63,IY)]) (hk:=[]) (by kernel_rfl) (by kernel_rfl) (.cons V9 .nil) .nil
  (A:=List ak×Int) (λa k=>ixO a.1 a.2 (a.1.length:Int) k) (·.1) (λa _ x=>nW a.2 x) (λa=>a.1.length<=1000000) (λa i=>oxO a.1 a.2 i) (λa=>oxE a.1 a.2) (λ_ _ h=>by cases h) (λ_ h=>by cases h)
  (by
   rintro⟨m,r⟩ k ae du hm h0 hk ht hf;dsimp only at*
   (rw[<-qdH];delta ZA pW Zk Zm o5 Za Z9 Zw Zn Z9D cg Lz Bj og BV iN NY dn lZ pB Z9B kz kA iO kB kg gY kh iy jz bP Zt gT F9 la pz pA B2 dM gi sT l4 u9 Zi)
   have e1:D.nth (m.map aR) k.toNat=aR m[k.toNat]:=ax _ _ _ du;rw[e1];simp only[zaa];refine bn hk (ao ⟨h0,hk⟩ (ao du (aq (fh _) ⟨m[k.toNat],r,rfl,rfl,aA (λh=>ht h) λh=>ao (by omega) (hf h)⟩))))
  (by
   rintro⟨m,r⟩ k ae hm hk hp;dsimp only at*
   (rw[<-qdH];delta ZA pW Zk Zm o5 Za Z9 Zw Zn Z9D cg Lz Bj og BV iN NY dn lZ pB Z9B kz kA iO kB kg gY kh iy jz bP Zt gT F9 la pz pA B2 dM gi sT l4 u9 Zi)
   exact jU (by omega) hp)
  (by rintro s ae ⟨m,r,rfl,hm,h1,h2⟩;exact⟨(m,r),rfl,hm,h1,h2⟩)
theorem qjF:FD X 96 qgv:=FD.mk (H:=[]) (hk:=[(2,ah (aK 96 2) qgt)]) (by kernel_rfl) .nil (.cons qcf .nil) (by
 intro ps R ae hh;obtain⟨m,r,rfl,rfl,hm,h1,h2⟩:=hh
 (rw[<-qgu];delta Ze Z9G Zk Zm Zn Z9D cg Lz Bj dn iR Z7 tu l4 Bi iN NY lZ pB Z9F)
 exact⟨m,r,rfl,hm,h1,h2⟩)
theorem qgB:LD X 62 5 (ah (aK 62 5) gDl):=
 LD.par (H:=[(63,IY)]) (hk:=[]) (by kernel_rfl) (by kernel_rfl) (.cons V9 .nil) .nil
  (A:=List ak×Int) (B:=List ak×Int×Int) (λa b=>dlH (b.1++a.1.drop b.1.length) a.1.length a.2 b.2.1 b.2.2)
  (λa b=>a.1.length<=1000000/\b.1=(a.1.take b.2.2.toNat).filter (AA a.2)/\b.2.1=(b.1.length:Int)/\0<=b.2.2/\b.2.2.toNat<=a.1.length)
  (λa b=>((a.1.length:Int)-b.2.2).toNat)
  (λa x=> ∃(o:List ak) (i:Int),o=a.1.filter (AA a.2)/\i=(o.length:Int)/\o.length<=a.1.length/\x=dlE (o++a.1.drop o.length) a.1.length a.2 i)
  (by
   rintro⟨m,r⟩ ⟨o,i,k⟩ ⟨hm,ho,hi,h0,hk⟩;dsimp only at*
   have k9:o.length<=k.toNat:=by rw[ho];refine zaE (zaG _ _) ?_;simp;omega
   (rw[<-qlN];delta Zk Zm Zn Z9D cg Lz Bj B6 Zt ZA ZL iN NY ZM r4 Za Z9 Zw Z9B kz kA iO kB kg gY kh iy jz bP gT F9 la pz pA B2 dM gi sT l8 T0)
   refine cr (λhp=> ?_) λhp=> ?_
   ·have aQ:k.toNat<m.length:=by omega
    have iv:=w8 aQ (AA r);have GP:=yo (m:=m) (o:=o) (by omega);have e1:D.nth ((o++m.drop o.length).map aR) k.toNat=aR m[k.toNat]:=NZ aQ k9;have j8:=λx:ak=>qce (m:=m) (o:=o) (x:=x) (by omega);have hit:i.toNat=o.length:=by omega
    have hib:0<=i/\i<(m.length:Int):=⟨by omega,by omega⟩
    have hif:(-9223372036854775808:Int)<=i+1/\i+1<=9223372036854775807:=by omega
    have ic:(-9223372036854775808:Int)<=k+1/\k+1<=9223372036854775807:=by omega
    have e2:D.nth ((o++m.drop o.length).map aR) i.toNat=aR m[i.toNat]:=NZ (by omega) (by omega);rw[e1,e2];generalize m[k.toNat]=g at*
    generalize m[i.toNat]=y at*
    have w1: ∀x y:ak,D.aP (D.agg [D.int .i64 (D.aj (D.ar (aR x) 0)),D.int .i64 (D.aj (D.ar (aR x) 1)),D.int .i64 (D.aj (D.ar (aR x) 2)),D.sl 1 (D.dS (D.ar (aR x) 3)),D.int .i64 (D.aj (D.ar (aR x) 4)),D.int .i64 (D.aj (D.ar (aR x) 5)),D.sl 18 (D.dS (D.ar (aR x) 6))]) [D.int .i64 (D.aj (D.ar (aR y) 0)),D.int .i64 (D.aj (D.ar (aR y) 1)),D.int .i64 (D.aj (D.ar (aR y) 2)),D.sl 1 (D.dS (D.ar (aR y) 3)),D.int .i64 (D.aj (D.ar (aR y) 4)),D.int .i64 (D.aj (D.ar (aR y) 5)),D.sl 18 (D.dS (D.ar (aR y) 6))]=aR y:=λ_ _=>rfl;rw[w1,hit,<-zcd,j8];simp only[zaa,GP];refine ao ⟨h0,hp⟩ (ao aQ (aq (fh _) ⟨g,r,rfl,rfl,aA (λh=> ?_) λh=> ?_⟩))
    ·refine ao hib (ao (by omega) (aq (fh _) (ao hif (ao ic ?_))));refine⟨((m.length:Int)-(k+1)).toNat,by omega,(o++[g],i+1,k+1),rfl,⟨hm,?_,?_,by show 0<=k+1;omega,by show(k+1).toNat<=m.length;omega⟩,rfl⟩
     ·show o++[g]=_;rw[show(k+1).toNat=k.toNat+1 by omega,iv,zap (by rw[qP];exact h),ho]
     show i+1=((o++[g]).length:Int)
     rw[zah];simp;exact hi
    refine ao ic ?_;refine⟨((m.length:Int)-(k+1)).toNat,by omega,(o,i,k+1),rfl,⟨hm,?_,hi,by show 0<=k+1;omega,by show(k+1).toNat<=m.length;omega⟩,rfl⟩;show o=_;rw[show(k+1).toNat=k.toNat+1 by omega,iv,zan (by rw[qP,h];simp),zaV];exact ho
   refine⟨o,i,?_,hi,by omega,rfl⟩;rw[ho,zal (by omega)])
  (by
   rintro s ae ⟨m,r,i,k,rfl,hq,hp⟩;have tU:=hq.kl;have h0:=hq.i0;have hik:=hq.ik;have hl:(m.take i.toNat).length=i.toNat:=by rw[zas];omega
   refine⟨(m,r),(m.take i.toNat,i,k),?_,⟨hq.len,hq.eq.symm,?_,by show 0<=k;omega,by show k.toNat<=m.length;omega⟩,?_⟩
   ·dsimp only;rw[hl,zbi]
   ·show i=_;rw[hl];omega
   rintro x ⟨o,i',h1,h2,h3,rfl⟩;exact hp o i' h1 h2 h3)
theorem qjG{m:List ak}{r:Int}(h: ∀j (hj:j<m.length),nW r m[j]=false):m.filter (AA r)=m:=by rw[zc1];intro x hx;obtain⟨j,hj,rfl⟩:=zaT hx;rw[qP,h j hj];rfl
theorem qcg{m:List ak}{r i:Int}(hm:m.length<=1000000)(hi:i.toNat<m.length)(h0:0<=i)(ht:nW r m[i.toNat]=true)(hb: ∀j (hj:j<i.toNat),nW r (m[j]'(by omega))=false):qgw m r i (i+1):=by refine⟨hm,h0,rfl,by omega,?_⟩;rw[show(i+1).toNat=i.toNat+1 by omega,w8 hi,zan (by rw[qP,ht];simp),zaV,zc1];intro x hx;obtain⟨j,hj,rfl⟩:=zcB.1 hx;rw[qP,hb j (by omega)];rfl
theorem qlO:FD X 62 hDl:=FD.mk (H:=[(96,qgv)]) (hk:=[(5,ah (aK 62 5) gDl)]) (by kernel_rfl) (.cons qjF .nil) (.cons qgB .nil) (by
 intro ps R ae hh;obtain⟨m,r,rfl,rfl,hm,hp⟩:=hh
 (rw[<-qjA];delta Z9G Zk Zm Zn Z9D Z7 dn Z9I Zt l4 ZS Bg ZA ZL B6 iN NY lZ pB Za Z9 Zw iR cg Lz Bj Z9H)
 refine⟨m,r,rfl,rfl,hm,λi hi h0 ht hb=>A9 (λh=>by omega) λ_=>ao (by omega) ⟨m,r,i,i+1,rfl,qcg hm hi h0 ht hb,λo i' ho yT k9=> ?_⟩,λh=> ?_⟩
 ·have hit:i'.toNat=o.length:=by omega
  refine ao (by omega) (ao (by rw[hit,zaa,yo k9];omega) (ao (by omega) ?_));rw[hit,zau,zcg (by simp),zaM];exact hp o _ ho
 have:=hp m [] (qjG h).symm;rwa [zaV] at this)
theorem qch:FD X 64 LJ:=U8 (dec:=qgz) (c:=λa b=>pL b.s.1 b.s.2 a.s.1 a.s.2)
 (FD.tX Tryz.func64 (by kernel_rfl) (by kernel_rfl) λps R ae h=>wQ h) (λx=>V8 x) EN (λx y=>(E2 y.s x.s).lt) (λ_=>⟨_,rfl⟩)
 (λx y=>FC.qiy qgA ⟨x,y,rfl,rfl,rfl⟩) ⟨_,Tryz.func65,by kernel_rfl,by kernel_rfl⟩
theorem qdK:FD X 36 V7:=FD.mk (H:=[(30,uD),(62,hDl),(64,LJ)]) (hk:=[]) (by kernel_rfl) (.cons NM (.cons qlO (.cons qch .nil))) .nil (by
 intro ps R ae hh;obtain⟨l,r,rfl,rfl,hs,hp⟩:=hh
 (rw[<-qjB];delta cg dn bP Z9J lZ iR Zk Zm Zn Z9D Lz Bj iN Z9H Zo ct jl)
 have rv:=dP l;have rV:=hs.1;refine⟨l,rfl,rfl,hs,λm hm=>⟨m,r,rfl,rfl,by rw[hm];omega,λo tl ho=>⟨o,tl,rfl,rfl,?_,λl' Il hpw=> ?_⟩⟩⟩
 ·rw[ho,hm];exact zaE (zaG _ _) (by omega)
 have e:l'=bt (aw l) r:=Nb (im l) (by rw[<-hm];exact ho▸Il) hpw;rw[<-Il.length_eq,zcg (by simp)];exact hp l' e)
end
def pd(ns:List Nat):List (Nat×En)->List (Nat×En)
 | []=>[]
 | (k,e)::r=>(k,if gZ k ns then⟨e.aV,none,e.obj⟩ else e)::pd ns r
def S.l5(ns:List Nat)(s:S):S:=⟨s.n,s.tm,pd ns s.rg⟩
theorem AE(ns:List Nat)(n:Nat): ∀(R:List (Nat×En)),lk (pd ns R) n=(lk R n).map λe=>if gZ n ns then⟨e.aV,none,e.obj⟩ else e
 | []=>rfl
 | (k,e)::r=>by
  simp only[pd,lk];split
  next hk=>rw[zag hk];rfl
  exact AE ns n r
theorem lg{ns:List Nat}{R:List (Nat×En)}{n:Nat}{e':En}(h:lk (pd ns R) n=some e'): ∃e,lk R n=some e/\e'.aV=e.aV/\e'.obj=e.obj/\(e'.tag=none\/e'=e):=by
 rw[AE,zax] at h;obtain⟨e,he,rfl⟩:=h;refine⟨e,he,?_⟩;split
 ·exact⟨rfl,rfl,.inl rfl⟩
 exact⟨rfl,rfl,.inr rfl⟩
theorem IZ{ns:List Nat}{R:List (Nat×En)}{n:Nat}{e:En}(h:lk R n=some e): ∃e',lk (pd ns R) n=some e'/\e'.aV=e.aV/\e'.obj=e.obj:=by rw[AE,h];refine⟨_,rfl,?_⟩;split<;>exact⟨rfl,rfl⟩
section
variable{Q:Program}{T:Tg}{F:Nat->Prop}{G:Nat->Value}{w:World}{a:Act}{s:S}{ns:List Nat}
theorem Dr:Own G (pd ns s.rg)=Own G s.rg:=by
 funext b;refine propext ⟨?_,?_⟩
 ·rintro⟨n,e',he,hb⟩;obtain⟨e,h1,_,h3,_⟩:=lg he;exact⟨n,e,h1,by rw[<-h3];exact hb⟩
 rintro⟨n,e,he,hb⟩;obtain⟨e',h1,_,h3⟩:=IZ (ns:=ns) he;exact⟨n,e',h1,by rw[h3];exact hb⟩
theorem aG.l5(h:aG Q T F G w a s):aG Q T F G w a (s.l5 ns):=by
 have hN:Names G G s.rg (pd ns s.rg):=⟨λn e he=>by obtain⟨e',h1,h2,h3⟩:=IZ (ns:=ns) he;exact⟨e',h1,by omega,λ_ hl=>by rw[h3] at hl;exact hl⟩,λ_ _ _ _ _ _ _=>rfl⟩
 have hx:Ext (Own G s.rg) (Own G (pd ns s.rg)) F F w w:=by rw[Dr];exact Ext.refl _ _ _
 refine⟨h.sg.go hx,h.size,λt p hp=>cA.mono (λ_ h=>h) (λ_ _=>rfl) hN (h.tm t p hp),λn e' he=> ?_,λn m e e' b he cS hb dm=> ?_,λn e b he hb=> ?_,h.jE,λn e i he hi hl=> ?_,h.z,h.dr,h.sz⟩
 ·obtain⟨e,h1,_,h3,_⟩:=lg he;rw[h3];exact(h.rg n e h1).mono (λ_ h=>h) (λ_ _=>rfl) hN rfl (λ_ _=>rfl)
 ·obtain⟨x,h1,_,h3,_⟩:=lg he;obtain⟨x',QL,_,h3',_⟩:=lg cS;rw[h3] at hb;rw[h3'] at dm;exact h.own n m x x' b h1 QL hb dm
 ·obtain⟨x,h1,_,h3,_⟩:=lg he;rw[h3] at hb;exact h.nf n x b h1 hb
 obtain⟨x,h1,_,h3,h4⟩:=lg he;rcases h4 with h4 |h4
 ·rw[h4] at hi;cases hi
 subst h4;exact h.tag n _ i h1 hi hl
end
theorem TW.l5{Q:Program}{T:Tg}{c:Code}{s:S}{ns:List Nat}{ae:PX×S->Prop}(h:TW Q T c (s.l5 ns) ae):TW Q T c s ae:=λr tc F G w a Q' hs hK=>h tc F G w a Q' hs.l5 λe s' a' w' hp hP=>hK e s' a' w' hp (by obtain⟨F',G',h1,h2⟩:=hP;refine⟨F',G',h1,?_⟩;have e:Own G (s.l5 ns).rg=Own G s.rg:=Dr;rw[<-e];exact h2)
theorem LN.qlP{X:XF}{w0:World}(hX:dw PR w0 X.cf)(ns:List Nat){H HN:List (FuncId×bg)}{hk:List (Nat×(S->K (PX×S)))}{f id:Nat}{g:S->K (PX×S)}(hdr:PR.follows .mixedOrders=true)(hu:uniq PR f=true)(hc:cc (q8 f) (bw PR f id)=true)(hnr:(bY (bw PR f id)).isEmpty=true)(hH:HD X H)(pq:Ng w0 HN)(hl:LNs w0 f hk)
  {A B:Type} (hd:A->B->S) (Inv:A->B->Prop) (mu:A->B->Nat) (Out:A->PX×S->Prop)
  (hr: ∀a b,Inv a b->fb H HN hk f id (hd a b) (roundPost (mu a b) (λm s=> ∃b',s.l5 ns=hd a b'/\Inv a b'/\m=mu a b') (Out a)))
  (hg: ∀s ae,g s ae-> ∃a b,s.l5 ns=hd a b/\Inv a b/\ ∀x,Out a x->ae x):LN w0 f id (ah (aK f id) g):=by
 intro val lo mk s ae hp;unfold ah at hp;cases hh:cz (aK f id) s with
 |none=>simp only[hh] at hp
 |some s0=>
  simp only[hh] at hp;obtain⟨a,b,h0,h1,h2⟩:=hg s0 ae hp;refine TW.mono (TW.loop (keep:=aK f id) (I:=λm s=> ∃b',s.l5 ns=hd a b'/\Inv a b'/\m=mu a b') (O:=Out a) (λn s hs=> ?_) hh ⟨b,h0,h1,rfl⟩) h2;obtain⟨b',h4,h3,rfl⟩:=hs;have:=hr a b' h3;unfold fb at this;refine TW.l5 (ns:=ns) ?_;rw[h4];refine TW.mono (eo (kp:=MT X) (T:=⟨val,w0,lo,mk⟩) pq.get (Ae hH) hX hdr (kp1:=aK f) (bw PR f id) hc (λd hd h hh s ae hp=>by have:=hl.get _ _ hh val lo mk s ae hp;rwa [vB hu hd] at this) (λx hx=>by rw[zbW.1 hnr] at hx;cases hx) _ _ this) ?_;rintro⟨e,s1⟩ hx;cases e with
  |normal=>obtain⟨s2,h4,m,h5,h6⟩:=KW.dR (p:=λs2=>cz (aK f id) s1=some s2) (λ_ h=>h) _ hx;exact⟨s2,h4,m,h5,h6⟩
  |exit i=>obtain⟨s2,h4,h5⟩:=KW.dR (p:=λs2=>dG (aK f id) s1=some s2) (λ_ h=>h) _ hx;exact⟨s2,h4,h5⟩
  |ret=>obtain⟨s2,h4,h5⟩:=KW.dR (p:=λs2=>dG (aK f id) s1=some s2) (λ_ h=>h) _ hx;exact⟨s2,h4,h5⟩
theorem LN.qjH{X:XF}{w0:World}(hX:dw PR w0 X.cf)(ns:List Nat){H HN:List (FuncId×bg)}{hk:List (Nat×(S->K (PX×S)))}{f id:Nat}{g:S->K (PX×S)}(hdr:PR.follows .mixedOrders=true)(hu:uniq PR f=true)(hc:cc (q8 f) (bw PR f id)=true)(hnr:(bY (bw PR f id)).isEmpty=true)(hH:HD X H)(pq:Ng w0 HN)(hl:LNs w0 f hk)
  {A B:Type} (hd:A->B->Int->S) (len:A->Nat) (Inv:A->Nat->B->Prop) (Out:A->PX×S->Prop)
  (hr: ∀a b (k:Int) ae,0<=k->k<len a->k.toNat<len a->Inv a k.toNat b->(∀b' s,S.l5 ns s=hd a b' (k+1)->Inv a (k.toNat+1) b'->ae (.normal,s))->(∀x,x.1≠ .normal->Out a x->ae x)->fb H HN hk f id (hd a b k) ae)
  (hx: ∀a b (k:Int) ae,k=len a->Inv a (len a) b->(∀x,x.1≠ .normal->Out a x->ae x)->fb H HN hk f id (hd a b k) ae)
  (hg: ∀s ae,g s ae-> ∃a b,S.l5 ns s=hd a b 0/\Inv a 0 b/\ ∀x,Out a x->ae x):LN w0 f id (ah (aK f id) g):=
 LN.qlP hX ns hdr hu hc hnr hH pq hl (A:=A) (B:=B×Int) (λa b=>hd a b.1 b.2) (λa b=>0<=b.2/\b.2.toNat<=len a/\Inv a b.2.toNat b.1) (λa b=>(len a-b.2).toNat) Out
  (by
   rintro a ⟨b,k⟩ ⟨h1,h2,h3⟩;dsimp only at*
   have aT: ∀x:PX×S,x.1≠ .normal->Out a x->roundPost ((len a-k).toNat) (λm s=> ∃b':B×Int,s.l5 ns=hd a b'.1 b'.2/\(0<=b'.2/\b'.2.toNat<=len a/\Inv a b'.2.toNat b'.1)/\m=(len a-b'.2).toNat) (Out a) x:=by
    rintro⟨e,s⟩ dQ hx;cases e with
    |normal=>exact absurd rfl dQ
    |exit i=>exact hx
    |ret=>exact hx
   by_cases hk:k<len a
   ·refine hr a b k _ h1 hk (by omega) h3 (λb' s hs hb=> ?_) aT;exact⟨((len a:Int)-(k+1)).toNat,by omega,(b',k+1),hs,⟨by show 0<=k+1;omega,by show(k+1).toNat<=len a;omega,by show Inv a (k+1).toNat b';rw[show(k+1).toNat=k.toNat+1 by omega];exact hb⟩,rfl⟩
   have e:k=len a:=by omega
   refine hx a b k _ e ?_ aT;have:k.toNat=len a:=by omega
   rwa [this] at h3)
  (by intro s ae hp;obtain⟨a,b,h1,h2,h3⟩:=hg s ae hp;exact⟨a,(b,0),h1,⟨zbF _,by simp,h2⟩,h3⟩)
abbrev onM(f:D->Option D)(c:Int):Obj:= .map 30 f c false
abbrev qci(f:D->Option D)(c:Int):Obj:= .map 50 f c false
abbrev vwB(ng no na np nh nl:Nat):Obj:= .box 120 [.sl 1 0 ng,.sl 2 0 no,.mp 3 0,.sl 4 0 na,.sl 5 0 np,.mp 6 0,.sl 7 0 nh,.sl 8 0 nl]
abbrev vwR(g:List ak)(o:List ay)(f:D->Option D)(c:Int)(d:D->Option D)(n:Int)(na np nh nl:Nat)(A P H L:List D):List (Nat×En):=[(0,⟨0,some 0,vwB g.length o.length na np nh nl⟩),(1,⟨0,some 1,pb false g⟩),(2,⟨0,some 2,mL false o⟩),(3,⟨0,some 3,onM f c⟩),(4,⟨0,none,.arr 50 false A⟩),(5,⟨0,none,.arr 104 false P⟩),(6,⟨0,some 6,qci d n⟩),(7,⟨0,none,.arr 106 false H⟩),(8,⟨0,none,.arr 106 false L⟩)]
abbrev qcj(x:ak):Obj:= .box 34 [iD x.s.1,iD x.s.2,iD x.n,.d (.sl 1 (aY x.deps)),iD x.bs.1,iD x.bs.2,.d (.sl 18 (x.ops.map dC))]
abbrev qjI(o:bc):Obj:= .box 54 [iD o.kind,iD o.node.1,iD o.node.2.1,iD o.node.2.2,iD o.parent.1,iD o.parent.2.1,iD o.parent.2.2,sD o.name,.d (.bool o.dir),eS o.cp,iD o.after.1,iD o.after.2.1,iD o.after.2.2,iD o.elem.1,iD o.elem.2.1,iD o.elem.2.2,sD o.text,cI o.elems]
abbrev gaH(x:ak)(g:List ak)(o:List ay)(f:D->Option D)(c:Int)(d:D->Option D)(n:Int)(na np nh nl:Nat)(A P H L:List D)(on:Bool)(i:Int):S:=⟨117,[(0,.ref 0 0 0),(3,.ref 9 0 0),(4,.d (.bool on)),(14,.d (.sl 18 (x.ops.map dC))),(15,iD ((x.ops.map dC).length:Int)),(16,iD i)],vwR g o f c d n na np nh nl A P H L++[(9,⟨0,none,qcj x⟩)]⟩
abbrev qgC(x:ak)(y:bc)(g:List ak)(o:List ay)(f:D->Option D)(c:Int)(d:D->Option D)(n:Int)(na np nh nl:Nat)(A P H L:List D)(on:Bool)(i j:Int):S:=⟨117,[(0,.ref 0 0 0),(3,.ref 9 0 0),(4,.d (.bool on)),(6,.ref 10 0 0),(14,.d (.sl 18 (x.ops.map dC))),(15,iD ((x.ops.map dC).length:Int)),(16,iD i),(95,eS y.cp),(96,iD ((y.cp.map bh).length:Int)),(97,iD j)],vwR g o f c d n na np nh nl A P H L++[(9,⟨0,none,qcj x⟩),(10,⟨0,none,qjI y⟩)]⟩
def Wa(x:ak):Nat×P:=(15,P.d (D.int .i64 (xA x)))
def Wb(x:ak):Nat×P:=(14,pX x)
def Wc(on:Bool):Nat×P:=(4,dV on)
def Rh:Nat×P:=(3,P.ref 9 0 0)
def Wd(nh:Nat)(nl:Nat):List P:=[P.mp 6 0,P.sl 7 0 nh,P.sl 8 0 nl]
def Ds:P:=P.mp 3 0
def Dt(o:List ay):P:=P.sl 2 0 (dv o)
def AF(g:List ak)(o:List ay)(na:Nat)(np:Nat)(nh:Nat)(nl:Nat):Nat×En:=(0,En.mk 0 (some 0) (Obj.box (120:TypeId) (vd g::Dt o::Ds::P.sl 4 0 na::P.sl 5 0 np::Wd nh nl)))
def Yz(y:bc):En:=En.mk 0 none (Obj.box (54:TypeId) (P.d (xy y)::P.d (vS y)::P.d (vR y)::P.d (vQ y)::P.d (A7 y)::P.d (A6 y)::P.d (A4 y)::P.d (D.str (bc.name y))::P.d (D.bool (bc.dir y))::P.d (yf y)::P.d (B0 y)::P.d (BZ y)::P.d (BY y)::P.d (D.int .i64 (xx y))::P.d (D.int .i64 (xw y))::P.d (D.int .i64 (xv y))::P.d (D.str (bc.text y))::UP y))
def Za5(x:ak)(y:bc):List (Nat×En):=[(9,yg x),(10,Yz y)]
def jA(H:List D):En:=En.mk 0 none (Obj.arr (106:TypeId) false H)
def ve(d:D->Option D)(n:Int):Nat×En:=(6,En.mk 0 (some 6) (Obj.map 50 d n false))
def Du(P:List D):En:=En.mk 0 none (Obj.arr (104:TypeId) false P)
def uI(P:List D):Nat×En:=(5,Du P)
def Dv(A:List D):En:=En.mk 0 none (Obj.arr (50:TypeId) false A)
def uJ(A:List D):Nat×En:=(4,Dv A)
def nX(f:D->Option D)(c:Int):Nat×En:=(3,En.mk 0 (some 3) (Obj.map 30 f c false))
def nY(o:List ay):Nat×En:=(2,En.mk 0 (some 2) (Obj.arr (30:TypeId) false (dq o)))
def nZ(g:List ak):Nat×En:=(1,En.mk 0 (some 1) (Obj.arr (34:TypeId) false (cg g)))
def Z9P:Nat×P:=(6,P.ref 10 0 0)
def Z9S(on:Bool)(x:ak)(i:Int)(y:bc)(j:Int):List (Nat×P):=[u5,Rh,Wc on,Z9P,Wb x,Wa x,(16,Zm i),(95,P.d (yf y)),(96,P.d (D.int .i64 (Iy y))),(97,P.d (ZA j))]
def Z9K(y:bc)(j:Int):D:=D.nth (List.map bh (bc.cp y)) (Zt j)
def YA(y:bc)(j:Int):List D:=[D.agg [vS y,vR y,vQ y,D.int .i64 (D.aj (D.ar (Z9K y j) 0)),D.int .i64 (D.aj (D.ar (Z9K y j) 1))]]
def AG(nl:Nat)(L:List D):Bool:=Nat.ble nl (List.length L)
theorem Wf(x:ak)(y:bc)(g:List ak)(o:List ay)(f:D->Option D)(c:Int)(d:D->Option D)(n:Int)(na np nh nl:Nat)(A P H L:List D)(on:Bool)(i j:Int)(ae:PX×S->Prop):(bif decide (j<Iy y) then ob (decide ((0:Int)<=j/\j<Iy y)) (ob (cw PR (30:TypeId) (Z9K y j)) (bif on then ob (AG nl L&&aI (nl+List.length (YA y j)) 40) (ob (Zw j) (ae (PX.normal,S.mk 117 (Z9S on x i y j) ((0,En.mk 0 (some 0) (Obj.box (120:TypeId) [vd g,Dt o,Ds,Pi.P.sl 4 0 na,Pi.P.sl 5 0 np,Pi.P.mp 6 0,Pi.P.sl 7 0 nh,Pi.P.sl 8 0 (nl+List.length (YA y j))]))::nZ g::nY o::nX f c::uJ A::uI P::ve d n::(7,jA H)::(8,En.mk 0 none (Obj.arr (106:TypeId) false (List.take nl L++YA y j)))::Za5 x y)))) else ob (Zw j) (ae (PX.normal,S.mk 117 (Z9S on x i y j) (AF g o na np nh nl::nZ g::nY o::nX f c::uJ A::uI P::ve d n::(7,jA H)::(8,jA L)::Za5 x y))))) else ae (PX.exit 2,S.mk 117 [u5,Rh,Wc on,Wb x,Wa x,(16,Zm i)] [AF g o na np nh nl,nZ g,nY o,nX f c,uJ A,uI P,ve d n,(7,jA H),(8,jA L),(9,yg x)]))=(fb [] [] [] 95 13 (qgC x y g o f c d n na np nh nl A P H L on i j)) ae:=by kernel_rfl
def I0(y:bc):List aZ:=y.cp.map λs=>(y.node,s)
def uK(on:Bool)(y:bc)(_:Nat)(L:List D)(cL:Nat)(L':List D):Prop:=cL=L'.length/\L'=L++(if on=true then(I0 y).map iH else [])
def Wg:S->K (PX×S):=λs ae=> ∃x y g o f c d n na np nh nl A P H L on i,s.l5 [4,5,7,8]=qgC x y g o f c d n na np nh nl A P H L on i 0/\(y.cp.length<=200/\nl=L.length/\nl<=100000000000)/\ ∀cL L',uK on y nl L cL L'->ae (.exit 2,gaH x g o f c d n na np nh cL A P H L' on i)
def Zap(H:List D)(L:List D):List (Nat×En):=[(7,jA H),(8,jA L)]
def Zab(x:ak)(i:Int):List D:=[D.agg [US x i,UR x i,UQ x i,iy x,gY x]]
def Zag(nh:Nat)(x:ak)(i:Int)(nl:Nat):List P:=[P.mp 6 0,P.sl 7 0 (nh+List.length (Zab x i)),P.sl 8 0 nl]
def Zao(g:List ak)(o:List ay)(na:Nat)(np:Nat)(nh:Nat)(x:ak)(i:Int)(nl:Nat):Nat×En:=(0,En.mk 0 (some 0) (Obj.box (120:TypeId) (vd g::Dt o::Ds::P.sl 4 0 na::P.sl 5 0 np::Zag nh x i nl)))
def Fp(L:List D)(x:ak)(i:Int):List (Nat×En):=[(8,jA L),(9,yg x),(10,En.mk 0 none (Obj.box (54:TypeId) [P.d (D.int .i64 (D.aj (D.ar (jT x i) 0))),P.d (US x i),P.d (UR x i),P.d (UQ x i),P.d (Z5R x i),P.d (Z5S x i),P.d (Z5T x i),P.d (D.str (D.cK (D.ar (jT x i) 7))),P.d (D.bool (D.eG (D.ar (jT x i) 8))),P.d (D.sl 2 (D.dS (D.ar (jT x i) 9))),P.d (D.int .i64 (D.aj (D.ar (jT x i) 10))),P.d (D.int .i64 (D.aj (D.ar (jT x i) 11))),P.d (D.int .i64 (D.aj (D.ar (jT x i) 12))),P.d (D.int .i64 (D.aj (D.ar (jT x i) 13))),P.d (D.int .i64 (D.aj (D.ar (jT x i) 14))),P.d (D.int .i64 (D.aj (D.ar (jT x i) 15))),P.d (D.str (D.cK (D.ar (jT x i) 16))),P.d (D.sl 3 (D.dS (D.ar (jT x i) 17)))]))]
def Za9(x:ak)(i:Int):List D:=[D.agg [US x i,UR x i,UQ x i,Z5R x i,Z5S x i,Z5T x i,D.str (D.cK (D.ar (jT x i) 7)),D.bool (D.eG (D.ar (jT x i) 8))]]
def Za8(na:Nat)(x:ak)(i:Int):Nat:=na+List.length [D.agg (iy x::gY x::Zl i)]
def YB(g:List ak)(o:List ay)(na:Nat)(x:ak)(i:Int)(np:Nat)(nh:Nat)(nl:Nat):Nat×En:=(0,En.mk 0 (some 0) (Obj.box (120:TypeId) (vd g::Dt o::Ds::P.sl 4 0 (Za8 na x i)::P.sl 5 0 (np+List.length (Za9 x i))::Wd nh nl)))
def YC(nh:Nat)(H:List D)(x:ak)(i:Int)(L:List D):List (Nat×En):=(7,En.mk 0 none (Obj.arr (106:TypeId) false (List.take nh H++Zab x i)))::Fp L x i
def N0(x:ak)(i:Int)(d:D->Option D)(n:Int):Nat×En:=(6,En.mk 0 (some 6) (Obj.map 50 (λ(k':D)=>bif D.pg (D.agg [D.int .i64 (D.aj (D.ar (jT x i) (0+1))),D.int .i64 (D.aj (D.ar (jT x i) (0+1+1))),D.int .i64 (D.aj (D.ar (jT x i) Z7B))]) k' then some (D.bool (D.eG (D.ar (jT x i) (Z7B+1+1+1+1+1)))) else d k') (bif Option.isSome (d (D.agg [US x i,UR x i,UQ x i])) then n else n+(1:Int)) false))
def N1(np:Nat)(P:List D)(x:ak)(i:Int):Nat×En:=(5,En.mk 0 none (Obj.arr (104:TypeId) false (List.take np P++Za9 x i)))
def N2(na:Nat)(A:List D)(x:ak)(i:Int):Nat×En:=(4,En.mk 0 none (Obj.arr (50:TypeId) false (List.take na A++[D.agg (iy x::gY x::Zl i)])))
def Zah(g:List ak)(o:List ay)(na:Nat)(x:ak)(i:Int)(np:Nat)(nh:Nat)(nl:Nat):Nat×En:=(0,En.mk 0 (some 0) (Obj.box (120:TypeId) (vd g::Dt o::Ds::P.sl 4 0 (Za8 na x i)::P.sl 5 0 (np+List.length (Za9 x i))::Zag nh x i nl)))
def w9(on:Bool)(x:ak)(i:Int):List (Nat×P):=[u5,Rh,Wc on,Z9P,Wb x,Wa x,(16,Zm i),(95,P.d (D.sl 2 (D.dS (D.ar (jT x i) 9)))),(96,P.d (D.int .i64 (↑(List.length (D.dS (D.ar (jT x i) 9))):Int))),(97,P.d Z7)]
def JL(y:bc):Prop:=List.length (bc.cp y)<=200
def xa(ae:PX×S->Prop):S->Prop:=λ(s0:S)=> ∃(aX:ak) (y:bc) (bq:List ak) (aU:List ay) (Bh:D->Option D) (Fl:Int) (YD:D->Option D) (mf:Int) (kR:Nat) (kS:Nat) (mn:Nat) (gW:Nat) (Bk:List D) (Bl:List D) (Bm:List D) (rG:List D) (bG:Bool) (bb:Int),s0=S.mk 117 [u5,Rh,Wc bG,Z9P,Wb aX,Wa aX,(16,Zm bb),(95,P.d (yf y)),(96,P.d (D.int .i64 (Iy y))),(97,P.d Z7)] (AF bq aU kR kS mn gW::nZ bq::nY aU::nX Bh Fl::uJ Bk::uI Bl::ve YD mf::(7,jA Bm)::(8,jA rG)::Za5 aX y)/\(JL y/\gW=List.length rG/\gW<=100000000000)/\ ∀(cL:Nat) (L':List D),uK bG y gW rG cL L'->ob (Zw bb) (ae (PX.normal,S.mk 117 [u5,Rh,Wc bG,Wb aX,Wa aX,(16,P.d (ZA bb))] [AF bq aU kR kS mn cL,nZ bq,nY aU,nX Bh Fl,uJ Bk,uI Bl,ve YD mf,(7,jA Bm),(8,jA L'),(9,yg aX)]))
def YE(nh:Nat)(H:List D)(x:ak)(i:Int):Bool:=AG nh H&&aI (nh+List.length (Zab x i)) 40
def YF(x:ak)(i:Int):Bool:=D.aj (D.ar (jT x i) 0) !=(2:Int)
theorem qdL(x:ak)(g:List ak)(o:List ay)(f:D->Option D)(c:Int)(d:D->Option D)(n:Int)(na np nh nl:Nat)(A P H L:List D)(on:Bool)(i:Int)(ae:PX×S->Prop):(bif UT i x then ob (Rb i x) (ob (Ra x i) (bif D.aj (D.ar (jT x i) 0)==(0:Int) then bif D.aj (D.ar (jT x i) 0)==(0:Int) then ob (AG na A&&aI (Za8 na x i) 24) (ob (AG np P&&aI (np+List.length (Za9 x i)) 72) (bif on then bif YF x i then ob (YE nh H x i) (xa ae (S.mk 117 (w9 on x i) (Zah g o na x i np nh nl::nZ g::nY o::nX f c::N2 na A x i::N1 np P x i::N0 x i d n::YC nh H x i L))) else xa ae (S.mk 117 (w9 on x i) (YB g o na x i np nh nl::nZ g::nY o::nX f c::N2 na A x i::N1 np P x i::N0 x i d n::(7,jA H)::Fp L x i)) else xa ae (S.mk 117 (w9 on x i) (YB g o na x i np nh nl::nZ g::nY o::nX f c::N2 na A x i::N1 np P x i::N0 x i d n::(7,jA H)::Fp L x i)))) else bif D.aj (D.ar (jT x i) 0)==(1:Int) then bif on then ob (AG na A&&aI (Za8 na x i) 24) (ob (AG np P&&aI (np+List.length (Za9 x i)) 72) (bif on then bif YF x i then ob (YE nh H x i) (xa ae (S.mk 117 (w9 on x i) (Zah g o na x i np nh nl::nZ g::nY o::nX f c::N2 na A x i::N1 np P x i::N0 x i d n::YC nh H x i L))) else xa ae (S.mk 117 (w9 on x i) (YB g o na x i np nh nl::nZ g::nY o::nX f c::N2 na A x i::N1 np P x i::N0 x i d n::(7,jA H)::Fp L x i)) else xa ae (S.mk 117 (w9 on x i) (YB g o na x i np nh nl::nZ g::nY o::nX f c::N2 na A x i::N1 np P x i::N0 x i d n::(7,jA H)::Fp L x i)))) else bif on then bif YF x i then ob (YE nh H x i) (xa ae (S.mk 117 (w9 on x i) (Zao g o na np nh x i nl::nZ g::nY o::nX f c::uJ A::uI P::N0 x i d n::YC nh H x i L))) else xa ae (S.mk 117 (w9 on x i) (AF g o na np nh nl::nZ g::nY o::nX f c::uJ A::uI P::N0 x i d n::(7,jA H)::Fp L x i)) else xa ae (S.mk 117 (w9 on x i) (AF g o na np nh nl::nZ g::nY o::nX f c::uJ A::uI P::N0 x i d n::(7,jA H)::Fp L x i)) else bif on then bif YF x i then ob (YE nh H x i) (xa ae (S.mk 117 (w9 on x i) (Zao g o na np nh x i nl::nZ g::nY o::nX f c::uJ A::uI P::N0 x i d n::YC nh H x i L))) else xa ae (S.mk 117 (w9 on x i) (AF g o na np nh nl::nZ g::nY o::nX f c::uJ A::uI P::N0 x i d n::(7,jA H)::Fp L x i)) else xa ae (S.mk 117 (w9 on x i) (AF g o na np nh nl::nZ g::nY o::nX f c::uJ A::uI P::N0 x i d n::(7,jA H)::Fp L x i)) else bif D.aj (D.ar (jT x i) 0)==(0:Int) then ob (AG na A&&aI (Za8 na x i) 24) (ob (AG np P&&aI (np+List.length (Za9 x i)) 72) (bif on then bif YF x i then ob (YE nh H x i) (xa ae (S.mk 117 (w9 on x i) (Zah g o na x i np nh nl::nZ g::nY o::nX f c::N2 na A x i::N1 np P x i::ve d n::YC nh H x i L))) else xa ae (S.mk 117 (w9 on x i) (YB g o na x i np nh nl::nZ g::nY o::nX f c::N2 na A x i::N1 np P x i::ve d n::(7,jA H)::Fp L x i)) else xa ae (S.mk 117 (w9 on x i) (YB g o na x i np nh nl::nZ g::nY o::nX f c::N2 na A x i::N1 np P x i::ve d n::(7,jA H)::Fp L x i)))) else bif D.aj (D.ar (jT x i) 0)==(1:Int) then bif on then ob (AG na A&&aI (Za8 na x i) 24) (ob (AG np P&&aI (np+List.length (Za9 x i)) 72) (bif on then bif YF x i then ob (YE nh H x i) (xa ae (S.mk 117 (w9 on x i) (Zah g o na x i np nh nl::nZ g::nY o::nX f c::N2 na A x i::N1 np P x i::ve d n::YC nh H x i L))) else xa ae (S.mk 117 (w9 on x i) (YB g o na x i np nh nl::nZ g::nY o::nX f c::N2 na A x i::N1 np P x i::ve d n::(7,jA H)::Fp L x i)) else xa ae (S.mk 117 (w9 on x i) (YB g o na x i np nh nl::nZ g::nY o::nX f c::N2 na A x i::N1 np P x i::ve d n::(7,jA H)::Fp L x i)))) else bif on then bif YF x i then ob (YE nh H x i) (xa ae (S.mk 117 (w9 on x i) (Zao g o na np nh x i nl::nZ g::nY o::nX f c::uJ A::uI P::ve d n::YC nh H x i L))) else xa ae (S.mk 117 (w9 on x i) (AF g o na np nh nl::nZ g::nY o::nX f c::uJ A::uI P::ve d n::(7,jA H)::Fp L x i)) else xa ae (S.mk 117 (w9 on x i) (AF g o na np nh nl::nZ g::nY o::nX f c::uJ A::uI P::ve d n::(7,jA H)::Fp L x i)) else bif on then bif YF x i then ob (YE nh H x i) (xa ae (S.mk 117 (w9 on x i) (Zao g o na np nh x i nl::nZ g::nY o::nX f c::uJ A::uI P::ve d n::YC nh H x i L))) else xa ae (S.mk 117 (w9 on x i) (AF g o na np nh nl::nZ g::nY o::nX f c::uJ A::uI P::ve d n::(7,jA H)::Fp L x i)) else xa ae (S.mk 117 (w9 on x i) (AF g o na np nh nl::nZ g::nY o::nX f c::uJ A::uI P::ve d n::(7,jA H)::Fp L x i)))) else ae (PX.exit 0,S.mk 117 [u5] (AF g o na np nh nl::nZ g::nY o::nX f c::uJ A::uI P::ve d n::Zap H L)))=(fb [] [] [(13,ah (aK 95 13) Wg)] 95 3 (gaH x g o f c d n na np nh nl A P H L on i)) ae:=by kernel_rfl
def rH(e:av->Option Bool)(y:bc):av->Option Bool:=λz=>if y.kind=0/\y.node=z then some y.dir else e z
def mq(d:D->Option D)(e:av->Option Bool):Prop:= ∀z:av,d (bV z)=(e z).map D.bool
structure r8(t:Tl)(na np nh nl:Nat)(A P H L:List D):Prop where
 na:na=t.a.length
 np:np=t.p.length
 nh:nh=t.h.length
 nl:nl=t.g.length
 a:A=t.a.map bV
 p:P=t.p.map eB
 h:H=t.h.map iH
 l:L=t.g.map iH
abbrev gaE(g:List ak)(o:List ay)(f:D->Option D)(c:Int)(d:D->Option D)(n:Int)(na np nh nl:Nat)(A P H L:List D):S:=⟨117,[(0,.ref 0 0 0)],vwR g o f c d n na np nh nl A P H L⟩
def qgD:S->K (PX×S):=λs ae=> ∃x g o f c d n na np nh nl A P H L on t N e,s.l5 [4,5,7,8]=gaH x g o f c d n na np nh nl A P H L on 0/\(r8 t na np nh nl A P H L/\mq d e/\vM N t/\N<=300000000/\x.ops.length<=200/\ ∀y∈x.ops,y.cp.length<=200)/\
 ∀d' n' pO pP pQ cL A' P' H' L',r8 (Ia on x.s x.ops t) pO pP pQ cL A' P' H' L'->mq d' (x.ops.foldl rH e)->ae (.exit 0,gaE g o f c d' n' pO pP pQ cL A' P' H' L')
abbrev qjJ(g:List ak)(o:List ay)(f:D->Option D)(c:Int)(d:D->Option D)(n:Int)(na np nh nl:Nat)(A P H L:List D):List (Nat×En):=[(0,⟨0,some 0,vwB g.length o.length na np nh nl⟩),(1,⟨0,some 1,pb false g⟩),(2,⟨0,some 2,mL false o⟩),(3,⟨0,some 3,onM f c⟩),(4,⟨0,some 4,.arr 50 false A⟩),(5,⟨0,some 5,.arr 104 false P⟩),(6,⟨0,some 6,qci d n⟩),(7,⟨0,some 7,.arr 106 false H⟩),(8,⟨0,some 8,.arr 106 false L⟩)]
def Zaq(aX:ak):List (Nat×P):=[Wb aX,Wa aX,(16,P.d Z7)]
theorem qlQ(x:ak)(g:List ak)(o:List ay)(f:D->Option D)(c:Int)(d:D->Option D)(n:Int)(na np nh nl:Nat)(A P H L:List D)(ae:Pi.P×List (Nat×En)->Prop):(ob (cw PR (167:TypeId) (cJ (f (D.agg [iy x,gY x])) (D.agg []))) (∃(aX:ak) (bq:List ak) (aU:List ay) (Bh:D->Option D) (Fl:Int) (YD:D->Option D) (mf:Int) (kR:Nat) (kS:Nat) (mn:Nat) (gW:Nat) (Bk:List D) (Bl:List D) (Bm:List D) (rG:List D) (on:Bool) (t:Tl) (N:Nat) (e:av->Option Bool),S.mk 117 (u5::Rh::(4,Pi.P.d (D.bool (Option.isSome (f (D.agg [iy x,gY x])))))::Zaq x) [AF g o na np nh nl,nZ g,nY o,nX f c,uJ A,uI P,ve d n,(7,jA H),(8,jA L),(9,yg x)]=S.mk 117 (u5::Rh::Wc on::Zaq aX) [AF bq aU kR kS mn gW,nZ bq,nY aU,nX Bh Fl,uJ Bk,uI Bl,ve YD mf,(7,jA Bm),(8,jA rG),(9,yg aX)]/\(r8 t kR kS mn gW Bk Bl Bm rG/\mq YD e/\vM N t/\N<=300000000/\Z63 aX/\ ∀(y:bc),y∈ak.ops aX->JL y)/\ ∀(d':D->Option D) (n':Int) (pO pP pQ cL:Nat) (A' P' H' L':List D),r8 (Ia on (ak.s aX) (ak.ops aX) t) pO pP pQ cL A' P' H' L'->mq d' (List.foldl rH e (ak.ops aX))->ae (Pi.P.cH [],(0,En.mk 0 (some 0) (Obj.box (120:TypeId) [vd bq,Dt aU,Ds,Pi.P.sl 5 0 pO,Pi.P.sl 6 0 pP,Pi.P.mp 4 0,Pi.P.sl 7 0 pQ,Pi.P.sl 8 0 cL]))::nZ bq::nY aU::nX Bh Fl::(4,En.mk 0 (some 6) (Obj.map 50 d' n' false))::(5,Dv A')::(6,Du P')::Zap H' L')))=(sM [] [] [(3,ah (aK 95 3) qgD)] 95 [.ref 0 0 0,.d (aR x)] (qjJ g o f c d n na np nh nl A P H L)) ae:=by kernel_rfl
theorem c8{n m b:Nat}{l:List D}{z:D}(h:n=m)(hl:l.length=m)(hb:m<=1000000000000)(hz:b<=100):(Nat.ble n l.length&&aI (n+List.length [z]) b)=true:=by rw[zab];refine⟨by rw[zcc];omega,bN (zaE (Nat.mul_le_mul (by simp only[zao,zat];omega:n+List.length [z]<=1000000000001) hz) (by omega)) (by simp only[zao,zat];omega)⟩
theorem r8.go{t:Tl}{na np nh nl:Nat}{A P H L:List D}(h:r8 t na np nh nl A P H L){on:Bool}{s:ay}{y:bc}{k:Nat}{i:Int}(hi:(k:Int)=i){cL:Nat}{L':List D}(hg:uK on y nl L cL L'):
  (fX on y=true->gu on y=true->r8 (TN on s t y k) (na+1) (np+1) (nh+1) cL (List.take na A++[bV (s.1,s.2,i)]) (List.take np P++[eB (sL y)]) (List.take nh H++[iH (y.node,s)]) L')/\
  (fX on y=true->gu on y=false->r8 (TN on s t y k) (na+1) (np+1) nh cL (List.take na A++[bV (s.1,s.2,i)]) (List.take np P++[eB (sL y)]) H L')/\
  (fX on y=false->gu on y=true->r8 (TN on s t y k) na np (nh+1) cL A P (List.take nh H++[iH (y.node,s)]) L')/\
  (fX on y=false->gu on y=false->r8 (TN on s t y k) na np nh cL A P H L'):=by
 obtain⟨rfl,rfl,rfl,rfl,rfl,rfl,rfl,rfl⟩:=h;obtain⟨rfl,rfl⟩:=hg;subst hi;have hl:t.g.map iH++(if on=true then(I0 y).map iH else [])=(if on=true then t.g++y.cp.map (λd=>(y.node,d)) else t.g).map iH:=by
  cases on
  ·simp
  simp[I0]
 have t1:List.take t.a.length (t.a.map bV)=t.a.map bV:=zal (by simp);have t2:List.take t.p.length (t.p.map eB)=t.p.map eB:=zal (by simp);have t3:List.take t.h.length (t.h.map iH)=t.h.map iH:=zal (by simp);rw[t1,t2,t3,hl];refine⟨λh1 h2=> ?_,λh1 h2=> ?_,λh1 h2=> ?_,λh1 h2=> ?_⟩<;>(unfold TN;rw[h1,h2];constructor<;>simp)
theorem qgE(a b:av):D.pg (bV a) (bV b)=(a==b):=by rw[zaH,D.hQ,zaW];exact⟨qdI,λh=>by rw[h]⟩
theorem mq.mk{d:D->Option D}{e:av->Option Bool}(h:mq d e){y:bc}(hk:y.kind=0):mq (λk'=>bif D.pg (bV y.node) k' then some (.bool y.dir) else d k') (rH e y):=λz=>by
 unfold rH;show(bif D.pg (bV y.node) (bV z) then some (D.bool y.dir) else d (bV z))=_;rw[qgE,h z];by_cases hz:y.node=z
 ·rw[zap ⟨hk,hz⟩,show(y.node==z)=true by simpa using hz];rfl
 rw[zan (λhh=>hz hh.2),show(y.node==z)=false by simpa using hz];rfl
theorem mq.no{d:D->Option D}{e:av->Option Bool}(h:mq d e){y:bc}(hk: ¬y.kind=0):mq d (rH e y):=λz=>by unfold rH;rw[h z,zan (λhh=>hk hh.1)]
structure GaP where
 x:ak
 y:bc
 g:List ak
 o:List ay
 f:D->Option D
 c:Int
 d:D->Option D
 n:Int
 na:Nat
 np:Nat
 nh:Nat
 A:List D
 P:List D
 H:List D
 on:Bool
 i:Int
 L:List D
abbrev GaB:=(D->Option D)×Int×Nat×Nat×Nat×Nat×List D×List D×List D×List D
structure GaQ where
 x:ak
 g:List ak
 o:List ay
 f:D->Option D
 c:Int
 on:Bool
 t:Tl
 N:Nat
 e:av->Option Bool
section
variable{X:XF}{w0:World}(hX:dw PR w0 X.cf)
include hX
theorem qgF:LN w0 95 13 (ah (aK 95 13) Wg):=LN.qjH hX [4,5,7,8] (H:=[]) (HN:=[]) (hk:=[]) Gb (by kernel_rfl) (by kernel_rfl) (by kernel_rfl) .nil .nil .nil
 (A:=GaP) (B:=Nat×List D) (λa b j=>qgC a.x a.y a.g a.o a.f a.c a.d a.n a.na a.np a.nh b.1 a.A a.P a.H b.2 a.on a.i j) (λa=>a.y.cp.length)
 (λa k b=>(a.y.cp.length<=200/\a.L.length<=100000000000)/\b.1=b.2.length/\b.2=a.L++(if a.on=true then(a.y.cp.take k).map (λs=>iH (a.y.node,s)) else []))
 (λa x=> ∃cL L',uK a.on a.y a.L.length a.L cL L'/\x=(.exit 2,gaH a.x a.g a.o a.f a.c a.d a.n a.na a.np a.nh cL a.A a.P a.H L' a.on a.i))
 (by
  rintro a ⟨nl,L⟩ j ae h0 GG Dl ⟨⟨hd,hL⟩,tf,LK⟩ hn ho;dsimp only at*
  (rw[<-Wf];delta pX kz kA iO kB kg gY kh iy yg Zk Zm xA Wa Wb dV Wc Rh bP u5 Wd Ds dv Dt dn vd AF UP xv xw xx A1 BY A2 BZ B0 yf A3 A4 A5 A6 A7 vQ vR vS xy Yz Za5 jA ve Du uI Dv uJ nX dq nY cg nZ ZA Iy Z9P Z9S Za Z9 Zw Zt Z9K YA AG)
  have e1:D.nth (a.y.cp.map bh) j.toNat=bh a.y.cp[j.toNat]:=ax _ _ _ Dl;have jS:(a.y.cp.take (j.toNat+1))=a.y.cp.take j.toNat++[a.y.cp[j.toNat]]:=zae Dl;rw[e1];generalize a.y.cp[j.toNat]=z at*
  have hLl:L.length<=a.L.length+200:=by
   rw[LK,zah];split
   ·rw[zaa,zas];omega
   simp
  have ML:j<((a.y.cp.map bh).length:Int):=by rw[zaa];exact GG
  refine bn ML (ao ⟨h0,ML⟩ (aq (jM _) (aA (λxt=>aq (c8 tf rfl (by omega) (by decide)) (ao (by omega) (hn (nl+1,List.take nl L++[iH (a.y.node,z)]) _ rfl ⟨⟨hd,hL⟩,?_,?_⟩))) λqgG=>ao (by omega) (hn (nl,L) _ rfl ⟨⟨hd,hL⟩,tf,?_⟩))))
  ·simp[tf]
  ·rw[xt,zap rfl] at LK⊢;rw[jS,tf,zaj,LK,zau,zaM];rfl
  rw[qgG] at LK⊢;simpa using LK)
 (by
  rintro a ⟨nl,L⟩ j ae hj ⟨⟨hd,hL⟩,tf,LK⟩ ho;dsimp only at*
  (rw[<-Wf];delta pX kz kA iO kB kg gY kh iy yg Zk Zm xA Wa Wb dV Wc Rh bP u5 Wd Ds dv Dt dn vd AF UP xv xw xx A1 BY A2 BZ B0 yf A3 A4 A5 A6 A7 vQ vR vS xy Yz Za5 jA ve Du uI Dv uJ nX dq nY cg nZ ZA Iy Z9P Z9S Za Z9 Zw Zt Z9K YA AG)
  refine jU (by simp only[zaa];omega) (ho _ (λh=>by cases h) ⟨nl,L,⟨tf,?_⟩,rfl⟩);rw[LK,zaj];cases a.on
  ·rfl
  simp[I0,zcj])
 (by rintro s ae ⟨x,y,g,o,f,c,d,n,na,np,nh,nl,A,P,H,L,on,i,hs,⟨h1,h2,h3⟩,hp⟩;refine⟨⟨x,y,g,o,f,c,d,n,na,np,nh,A,P,H,on,i,L⟩,(nl,L),hs,⟨⟨h1,by rw[<-h2];exact h3⟩,h2,by simp⟩,?_⟩;rintro z ⟨cL,L',hg,rfl⟩;exact hp cL L' ⟨hg.1,hg.2⟩)
theorem qjK:LN w0 95 3 (ah (aK 95 3) qgD):=LN.qjH hX [4,5,7,8] (H:=[]) (HN:=[]) (hk:=[(13,ah (aK 95 13) Wg)]) Gb (by kernel_rfl) (by kernel_rfl) (by kernel_rfl) .nil .nil (.cons (qgF hX) .nil)
 (A:=GaQ) (B:=GaB) (λa b i=>gaH a.x a.g a.o a.f a.c b.1 b.2.1 b.2.2.1 b.2.2.2.1 b.2.2.2.2.1 b.2.2.2.2.2.1 b.2.2.2.2.2.2.1 b.2.2.2.2.2.2.2.1 b.2.2.2.2.2.2.2.2.1 b.2.2.2.2.2.2.2.2.2 a.on i) (λa=>a.x.ops.length)
 (λa k b=>(vM a.N a.t/\a.N<=300000000/\a.x.ops.length<=200/\ ∀y∈a.x.ops,y.cp.length<=200)/\r8 (Ia a.on a.x.s (a.x.ops.take k) a.t) b.2.2.1 b.2.2.2.1 b.2.2.2.2.1 b.2.2.2.2.2.1 b.2.2.2.2.2.2.1 b.2.2.2.2.2.2.2.1 b.2.2.2.2.2.2.2.2.1 b.2.2.2.2.2.2.2.2.2/\mq b.1 ((a.x.ops.take k).foldl rH a.e))
 (λa x=> ∃d' n' pO pP pQ cL A' P' H' L',r8 (Ia a.on a.x.s a.x.ops a.t) pO pP pQ cL A' P' H' L'/\mq d' (a.x.ops.foldl rH a.e)/\x=(.exit 0,gaE a.g a.o a.f a.c d' n' pO pP pQ cL A' P' H' L'))
 (by
  rintro⟨x,g,o,f,c,on,t,N,e⟩ ⟨d,n,na,np,nh,nl,A,P,H,L⟩ i ae h0 bK aQ ⟨hc,hR,hD⟩ hn ho;dsimp only at*
  (rw[<-qdL];delta jA Zap bP u5 ve Wd Ds dv Dt dn vd AF Du uI Dv uJ kg gY kh iy Zt jT UQ UR US Zab Zag Zao Z5T Z5S Z5R pX kz kA iO kB yg Fp Za9 Zk Zl Za8 YB YC Z7B N0 N1 N2 nX dq nY cg nZ Zah Z7 Zm xA Wa Wb Z9P dV Wc Rh w9 ZA Za Z9 Zw JL UP xv xw xx A1 BY A2 BZ B0 yf A3 A4 A5 A6 A7 vQ vR vS xy Yz Za5 Iy xa AG YE YF Ra Rb UT)
  have kT:=(hc.1.ops (on:=on) (s:=x.s) hc.2.2.2 i.toNat (by omega)).mono (m:=300000200) (by omega);have e1:D.nth (x.ops.map dC) i.toNat=dC x.ops[i.toNat]:=ax _ _ _ aQ;have iv:=Ad (on:=on) (s:=x.s) (t:=t) aQ;have Qk:(x.ops.take (i.toNat+1)).foldl rH e=rH ((x.ops.take i.toNat).foldl rH e) x.ops[i.toNat]:=by rw[zae aQ,za7];rfl
  have iA:=hc.2.2.2 _ (zaq aQ);have Yh:((i.toNat:Nat):Int)=i:=by omega
  rw[e1];generalize x.ops[i.toNat]=y at iv Qk iA⊢;generalize Ia on x.s (x.ops.take i.toNat) t=t1 at iv hR kT;generalize (x.ops.take i.toNat).foldl rH e=e2 at Qk hD;have u0:D.aj (D.ar (dC y) 0)=y.kind:=rfl;have sk:=IE y;simp only[u0];have dt:i<((x.ops.map dC).length:Int):=by rw[zaa];exact bK
  refine bn dt (ao ⟨h0,dt⟩ (aq sk ?_));clear e1 sk;by_cases gy:y.kind=0
  ·rw[show(y.kind==0)=true by simp[gy],show(y.kind==1)=false by simp[gy],show(y.kind !=2)=true by simp[gy]];cases on with
   |true=>simp only[zb1,zbq];exact aq (c8 hR.na (by rw[hR.a,zaa]) (by have:=kT.2.1;omega) (by decide)) (aq (c8 hR.np (by rw[hR.p,zaa]) (by have:=kT.1;have:=kT.2.1;omega) (by decide)) (aq (c8 hR.nh (by rw[hR.h,zaa]) (by have:=kT.2.2.1;omega) (by decide)) (⟨x,y,g,o,f,c,(λk'=>bif D.pg (bV y.node) k' then some (.bool y.dir) else d k'),(bif (d (bV y.node)).isSome then n else n+1),na+1,np+1,nh+1,nl,List.take na A++[bV (x.s.1,x.s.2,i)],List.take np P++[eB (sL y)],List.take nh H++[iH (y.node,x.s)],L,true,i,rfl,⟨iA,hR.nl.trans (by rw[hR.l,zaa]),by have:=hR.nl;have:=kT.2.2.2;omega⟩,λcL L' nk=>ao (by omega) (hn ((λk'=>bif D.pg (bV y.node) k' then some (.bool y.dir) else d k'),(bif (d (bV y.node)).isSome then n else n+1),na+1,np+1,nh+1,cL,List.take na A++[bV (x.s.1,x.s.2,i)],List.take np P++[eB (sL y)],List.take nh H++[iH (y.node,x.s)],L') _ rfl ⟨hc,by rw[iv];exact(hR.go Yh nk).1 (by simp[fX,gy]) (by simp[gu,gy]),by rw[Qk];exact hD.mk gy⟩)⟩)))
   |false=>simp only[zb1,zbq];exact aq (c8 hR.na (by rw[hR.a,zaa]) (by have:=kT.2.1;omega) (by decide)) (aq (c8 hR.np (by rw[hR.p,zaa]) (by have:=kT.1;have:=kT.2.1;omega) (by decide)) (⟨x,y,g,o,f,c,(λk'=>bif D.pg (bV y.node) k' then some (.bool y.dir) else d k'),(bif (d (bV y.node)).isSome then n else n+1),na+1,np+1,nh,nl,List.take na A++[bV (x.s.1,x.s.2,i)],List.take np P++[eB (sL y)],H,L,false,i,rfl,⟨iA,hR.nl.trans (by rw[hR.l,zaa]),by have:=hR.nl;have:=kT.2.2.2;omega⟩,λcL L' nk=>ao (by omega) (hn ((λk'=>bif D.pg (bV y.node) k' then some (.bool y.dir) else d k'),(bif (d (bV y.node)).isSome then n else n+1),na+1,np+1,nh,cL,List.take na A++[bV (x.s.1,x.s.2,i)],List.take np P++[eB (sL y)],H,L') _ rfl ⟨hc,by rw[iv];exact(hR.go Yh nk).2.1 (by simp[fX,gy]) (by simp[gu,gy]),by rw[Qk];exact hD.mk gy⟩)⟩))
  by_cases ft:y.kind=1
  ·rw[show(y.kind==0)=false by simp[gy],show(y.kind==1)=true by simp[ft],show(y.kind !=2)=true by simp[ft]];cases on with
   |true=>simp only[zb1,zbq];exact aq (c8 hR.na (by rw[hR.a,zaa]) (by have:=kT.2.1;omega) (by decide)) (aq (c8 hR.np (by rw[hR.p,zaa]) (by have:=kT.1;have:=kT.2.1;omega) (by decide)) (aq (c8 hR.nh (by rw[hR.h,zaa]) (by have:=kT.2.2.1;omega) (by decide)) (⟨x,y,g,o,f,c,d,n,na+1,np+1,nh+1,nl,List.take na A++[bV (x.s.1,x.s.2,i)],List.take np P++[eB (sL y)],List.take nh H++[iH (y.node,x.s)],L,true,i,rfl,⟨iA,hR.nl.trans (by rw[hR.l,zaa]),by have:=hR.nl;have:=kT.2.2.2;omega⟩,λcL L' nk=>ao (by omega) (hn (d,n,na+1,np+1,nh+1,cL,List.take na A++[bV (x.s.1,x.s.2,i)],List.take np P++[eB (sL y)],List.take nh H++[iH (y.node,x.s)],L') _ rfl ⟨hc,by rw[iv];exact(hR.go Yh nk).1 (by simp[fX,ft]) (by simp[gu,ft]),by rw[Qk];exact hD.no gy⟩)⟩)))
   |false=>simp only[zb1,zbq];exact⟨x,y,g,o,f,c,d,n,na,np,nh,nl,A,P,H,L,false,i,rfl,⟨iA,hR.nl.trans (by rw[hR.l,zaa]),by have:=hR.nl;have:=kT.2.2.2;omega⟩,λcL L' nk=>ao (by omega) (hn (d,n,na,np,nh,cL,A,P,H,L') _ rfl ⟨hc,by rw[iv];exact(hR.go Yh nk).2.2.2 (by simp[fX,ft]) (by simp[gu,ft]),by rw[Qk];exact hD.no gy⟩)⟩
  by_cases qY:y.kind=2
  ·rw[show(y.kind==0)=false by simp[gy],show(y.kind==1)=false by simp[ft],show(y.kind !=2)=false by simp[qY]];cases on with
   |true=>simp only[zbq];exact⟨x,y,g,o,f,c,d,n,na,np,nh,nl,A,P,H,L,true,i,rfl,⟨iA,hR.nl.trans (by rw[hR.l,zaa]),by have:=hR.nl;have:=kT.2.2.2;omega⟩,λcL L' nk=>ao (by omega) (hn (d,n,na,np,nh,cL,A,P,H,L') _ rfl ⟨hc,by rw[iv];exact(hR.go Yh nk).2.2.2 (by simp[fX,qY]) (by simp[gu,qY]),by rw[Qk];exact hD.no gy⟩)⟩
   |false=>simp only[zbq];exact⟨x,y,g,o,f,c,d,n,na,np,nh,nl,A,P,H,L,false,i,rfl,⟨iA,hR.nl.trans (by rw[hR.l,zaa]),by have:=hR.nl;have:=kT.2.2.2;omega⟩,λcL L' nk=>ao (by omega) (hn (d,n,na,np,nh,cL,A,P,H,L') _ rfl ⟨hc,by rw[iv];exact(hR.go Yh nk).2.2.2 (by simp[fX,qY]) (by simp[gu,qY]),by rw[Qk];exact hD.no gy⟩)⟩
  rw[show(y.kind==0)=false by simp[gy],show(y.kind==1)=false by simp[ft],show(y.kind !=2)=true by simp[qY]];cases on with
  |true=>simp only[zbq];exact aq (c8 hR.nh (by rw[hR.h,zaa]) (by have:=kT.2.2.1;omega) (by decide)) (⟨x,y,g,o,f,c,d,n,na,np,nh+1,nl,A,P,List.take nh H++[iH (y.node,x.s)],L,true,i,rfl,⟨iA,hR.nl.trans (by rw[hR.l,zaa]),by have:=hR.nl;have:=kT.2.2.2;omega⟩,λcL L' nk=>ao (by omega) (hn (d,n,na,np,nh+1,cL,A,P,List.take nh H++[iH (y.node,x.s)],L') _ rfl ⟨hc,by rw[iv];exact(hR.go Yh nk).2.2.1 (by simp[fX,gy,ft]) (by simp[gu,qY]),by rw[Qk];exact hD.no gy⟩)⟩)
  |false=>simp only[zbq];exact⟨x,y,g,o,f,c,d,n,na,np,nh,nl,A,P,H,L,false,i,rfl,⟨iA,hR.nl.trans (by rw[hR.l,zaa]),by have:=hR.nl;have:=kT.2.2.2;omega⟩,λcL L' nk=>ao (by omega) (hn (d,n,na,np,nh,cL,A,P,H,L') _ rfl ⟨hc,by rw[iv];exact(hR.go Yh nk).2.2.2 (by simp[fX,gy]) (by simp[gu]),by rw[Qk];exact hD.no gy⟩)⟩)
 (by
  rintro⟨x,g,o,f,c,on,t,N,e⟩ ⟨d,n,na,np,nh,nl,A,P,H,L⟩ i ae hi ⟨hc,hR,hD⟩ ho;dsimp only at*
  (rw[<-qdL];delta jA Zap bP u5 ve Wd Ds dv Dt dn vd AF Du uI Dv uJ kg gY kh iy Zt jT UQ UR US Zab Zag Zao Z5T Z5S Z5R pX kz kA iO kB yg Fp Za9 Zk Zl Za8 YB YC Z7B N0 N1 N2 nX dq nY cg nZ Zah Z7 Zm xA Wa Wb Z9P dV Wc Rh w9 ZA Za Z9 Zw JL UP xv xw xx A1 BY A2 BZ B0 yf A3 A4 A5 A6 A7 vQ vR vS xy Yz Za5 Iy xa AG YE YF Ra Rb UT)
  rw[zaj] at hR hD;exact jU (by simp only[zaa];omega) (ho _ (λh=>by cases h) ⟨d,n,na,np,nh,nl,A,P,H,L,hR,hD,rfl⟩))
 (by rintro s ae ⟨x,g,o,f,c,d,n,na,np,nh,nl,A,P,H,L,on,t,N,e,hs,⟨h1,h2,h3⟩,hp⟩;refine⟨⟨x,g,o,f,c,on,t,N,e⟩,(d,n,na,np,nh,nl,A,P,H,L),hs,⟨h3,h1,h2⟩,?_⟩;rintro z ⟨d',n',pO,pP,pQ,cL,A',P',H',L',g1,g2,rfl⟩;exact hp d' n' pO pP pQ cL A' P' H' L' g1 g2)
end
def rl(x:Td):D:= .agg [iE x.1.1,iE x.1.2.1,iE x.1.2.2,iE x.2.1.1,iE x.2.1.2.1,iE x.2.1.2.2,iE x.2.2.1.1,iE x.2.2.1.2.1,iE x.2.2.1.2.2,.str x.2.2.2.1,.bool x.2.2.2.2]
abbrev rI(z:Bool)(l:List Td):Obj:= .arr 155 z (l.map rl)
abbrev rsA(a:List av)(l:List Pl)(s:List Td)(i:Int):S:=⟨93,[(0,cI a),(1,eL l),(5,.sl 0 0 s.length),(6,iD i)],[(0,⟨0,none,rI false s⟩)]⟩
abbrev rsB(a:List av)(l:List Pl)(s:List Td)(i:Int)(h:Bool)(k:Int):S:=⟨93,[(0,cI a),(1,eL l),(5,.sl 0 0 s.length),(6,iD i),(7,.d (.bool h)),(8,iD k)],[(0,⟨0,none,rI false s⟩)]⟩
abbrev rsC(a:List av)(l:List Pl)(s:List Td)(n:Nat)(i k:Int):S:=⟨93,[(0,cI a),(1,eL l),(5,.sl 0 0 n),(6,iD i),(9,iD k)],[(0,⟨0,none,rI false s⟩)]⟩
def sV(s:List Td)(k:Int):D:=D.nth (List.map rl s) (Zt k)
def YG(k:Int)(s:List Td):Bool:=decide (Zt k<List.length (List.map rl s))
def Dw(s:List Td):Nat×En:=(0,En.mk 0 none (Obj.arr (155:TypeId) false (List.map rl s)))
def I1(s:List Td):List (Nat×En):=[Dw s]
def Bn(s:List Td):Nat×P:=(5,P.sl 0 0 (List.length s))
def pR(l:List Pl):Nat×P:=(1,iG l)
theorem qdM(a:List av)(l:List Pl)(s:List Td)(i:Int)(h:Bool)(k:Int)(ae:PX×S->Prop):(bif decide (k<(↑(List.length s):Int)) then bif h then ob (Zw k) (ae (PX.normal,S.mk 93 (wV a::pR l::Bn s::ZS i::(7,ZW)::pW k) (I1 s))) else ob (decide ((0:Int)<=k/\k<(↑(List.length s):Int))) (ob (YG k s) (ob (cw PR (155:TypeId) (sV s k)) (ob (Jz i a) (ob (vN a i) (ob (Zw k) (ae (PX.normal,S.mk 93 (wV a::pR l::Bn s::ZS i::(7,P.d (D.bool (D.aj (D.ar (sV s k) 0)==FV a i&&(D.aj (D.ar (sV s k) 1)==FU a i&&true)&&(D.aj (D.ar (sV s k) 2)==FT a i&&true))))::pW k) (I1 s)))))))) else ae (PX.exit 2,S.mk 93 [wV a,pR l,Bn s,ZS i,uy h] (I1 s)))=(aD [] [] 85 7 (rsB a l s i h k)) ae:=by kernel_rfl
def qgH:S->K (PX×S):=λs ae=> ∃(a:List av) (l:List Pl) (t:List Td) (i:Int) (hi:i.toNat<a.length),s=rsB a l t i false 0/\(t.length<=1000000/\0<=i/\i<a.length)/\ ∀b,b=(t.any λx=>x.1==a[i.toNat])->ae (.exit 2,⟨93,[(0,cI a),(1,eL l),(5,.sl 0 0 t.length),(6,iD i),(7,.d (.bool b))],[(0,⟨0,none,rI false t⟩)]⟩)
def ZaD(s:List Td)(k:Int):D:=D.int .i64 (D.aj (D.ar (sV s k) 8))
def ZaC(s:List Td)(k:Int):D:=D.int .i64 (D.aj (D.ar (sV s k) 7))
def ZaB(s:List Td)(k:Int):D:=D.int .i64 (D.aj (D.ar (sV s k) 6))
def ZaA(s:List Td)(k:Int):D:=D.int .i64 (D.aj (D.ar (sV s k) 5))
def Zaz(s:List Td)(k:Int):D:=D.int .i64 (D.aj (D.ar (sV s k) 4))
def Zay(s:List Td)(k:Int):D:=D.int .i64 (D.aj (D.ar (sV s k) 3))
def ZaE(s:List Td)(k:Int):List D:=[Zay s k,Zaz s k,ZaA s k,ZaB s k,ZaC s k,ZaD s k,D.str (D.cK (D.ar (sV s k) 9)),D.bool (D.eG (D.ar (sV s k) 10))]
def ZaF(s:List Td)(k:Int):List D:=D.int .i64 (D.aj (D.ar (sV s k) 0))::D.int .i64 (D.aj (D.ar (sV s k) 1))::D.int .i64 (D.aj (D.ar (sV s k) 2))::ZaE s k
def I2(s:List Td)(k:Int):D:=D.nth (List.map rl s) (Zc k)
def ZaG(s:List Td)(k:Int):List D:=List.set (List.map rl s) (Zt k) (D.aP (D.agg (ZaF s k)) [D.int .i64 (D.aj (D.ar (I2 s k) 0)),D.int .i64 (D.aj (D.ar (I2 s k) 1)),D.int .i64 (D.aj (D.ar (I2 s k) 2)),D.int .i64 (D.aj (D.ar (I2 s k) 3)),D.int .i64 (D.aj (D.ar (I2 s k) 4)),D.int .i64 (D.aj (D.ar (I2 s k) 5)),D.int .i64 (D.aj (D.ar (I2 s k) 6)),D.int .i64 (D.aj (D.ar (I2 s k) 7)),D.int .i64 (D.aj (D.ar (I2 s k) 8)),D.str (D.cK (D.ar (I2 s k) 9)),D.bool (D.eG (D.ar (I2 s k) 10))])
def Ql(s:List Td)(k:Int):D:=D.nth (ZaG s k) (Zc k)
theorem qjL(a:List av)(l:List Pl)(s:List Td)(n:Nat)(i k:Int)(ae:PX×S->Prop):(bif ZF k then ob (l8 k n) (ob (YG k s) (ob (cw PR (155:TypeId) (sV s k)) (ob (Zb k) (ob (uZ k n) (ob (decide (Zc k<List.length (List.map rl s))) (ob (cw PR (155:TypeId) (I2 s k)) (∃(t:Int) (r:Int) (bb:Int) (t':Int) (r':Int) (i':Int),[P.d (D.agg [D.int .i64 (D.aj (D.ar (sV s k) 0)),D.int .i64 (D.aj (D.ar (sV s k) 1)),D.int .i64 (D.aj (D.ar (sV s k) 2))]),P.d (D.agg [D.int .i64 (D.aj (D.ar (I2 s k) 0)),D.int .i64 (D.aj (D.ar (I2 s k) 1)),D.int .i64 (D.aj (D.ar (I2 s k) 2))])]=P.d (D.agg (Zk t::Zk r::Zl bb))::AV t' r' i'/\Zo/\bif Ub t r bb t' r' i' then ob (Zb k) (ob (Zb k) (ob (uZ k n) (ob (decide (Zc k<List.length (List.map rl s))) (ob (cw PR (155:TypeId) (I2 s k)) (ob (l8 k n) (ob (YG k s) (ob (cw PR (155:TypeId) (sV s k)) (ob (l8 k n) (ob (YG k s) (ob (cw PR (155:TypeId) (sV s k)) (ob (uZ k n) (ob (decide (Zc k<List.length (ZaG s k))) (ob (cw PR (155:TypeId) (Ql s k)) (ob (Zb k) (ae (PX.normal,S.mk 93 (wV a::pR l::ZN n::ZS i::Z3t k) [(0,En.mk 0 none (Obj.arr (155:TypeId) false (List.set (ZaG s k) (Zc k) (D.aP (D.agg [D.int .i64 (D.aj (D.ar (Ql s k) 0)),D.int .i64 (D.aj (D.ar (Ql s k) 1)),D.int .i64 (D.aj (D.ar (Ql s k) 2)),D.int .i64 (D.aj (D.ar (Ql s k) 3)),D.int .i64 (D.aj (D.ar (Ql s k) 4)),D.int .i64 (D.aj (D.ar (Ql s k) 5)),D.int .i64 (D.aj (D.ar (Ql s k) 6)),D.int .i64 (D.aj (D.ar (Ql s k) 7)),D.int .i64 (D.aj (D.ar (Ql s k) 8)),D.str (D.cK (D.ar (Ql s k) 9)),D.bool (D.eG (D.ar (Ql s k) 10))]) (ZaF s k)))))])))))))))))))))) else ae (PX.exit 4,S.mk 93 (wV a::pR l::ZN n::Bg i) (I1 s))))))))) else ae (PX.exit 4,S.mk 93 (wV a::pR l::ZN n::Bg i) (I1 s)))=(aD [(88,gG)] [] 85 13 (rsC a l s n i k)) ae:=by kernel_rfl
def qgI:S->K (PX×S):=λs ae=> ∃a l t x n i k,s=rsC a l (t++[x]) n i k/\(k=(t.length:Int)/\n=t.length+1/\t.length<=1000000)/\ ∀t',t'=cD ltT t x->ae (.exit 4,rsA a l t' i)
def ZaJ(gX:List av)(bb:Int)(au:List Pl):List D:=[D.agg (D.int .i64 (FV gX bb)::D.int .i64 (FU gX bb)::D.int .i64 (FT gX bb)::QV au bb)]
def ZaK(t:List Td)(gX:List av)(bb:Int)(au:List Pl):Int:=(↑(List.length t+List.length (ZaJ gX bb au)):Int)-(1:Int)
def ZaI(gX:List av)(au:List Pl)(t:List Td)(bb:Int):S:=S.mk 93 (wV gX::pR au::Bn t::ZS bb::(7,P.d Z3)::tu) (I1 t)
theorem qdN(a:List av)(l:List Pl)(s:List Td)(i:Int)(ae:PX×S->Prop):(bif QU i a then bif Nh i l then∃(gX:List av) (au:List Pl) (t:List Td) (bb:Int) (hi:Int.toNat bb<List.length gX),ZaI a l s i=ZaI gX au t bb/\(List.length t<=1000000/\(0:Int)<=bb/\bb<vb gX)/\ ∀(b:Bool),(b=List.any t λ(x:Td)=>Prod.fst x==gX[Int.toNat bb])->bif b then ob (Zw bb) (ae (PX.normal,S.mk 93 (wV gX::pR au::Bn t::ZL bb) (I1 t))) else ob (Jz bb gX) (ob (vN gX bb) (ob (C9 bb au) (ob (pV au bb) (ob (Nat.ble (List.length t) (List.length (List.map rl t))&&aI (List.length t+List.length (ZaJ gX bb au)) 96) (ob (decide (Z9<=ZaK t gX bb au/\ZaK t gX bb au<=Za)) (∃(a:List av) (l:List Pl) (nr:List Td) (x:Td) (n:Nat) (i:Int) (k:Int),S.mk 93 [wV gX,pR au,(5,P.sl 0 0 (List.length t+List.length (ZaJ gX bb au))),ZS bb,(9,P.d (D.int .i64 (ZaK t gX bb au)))] [(0,En.mk 0 none (Obj.arr (155:TypeId) false (List.take (List.length t) (List.map rl t)++ZaJ gX bb au)))]=S.mk 93 (wV a::pR l::ZN n::ZS i::Yp k) [(0,En.mk 0 none (Obj.arr (155:TypeId) false (List.map rl (nr++[x]))))]/\(k=(↑(List.length nr):Int)/\n=List.length nr+1/\List.length nr<=1000000)/\ ∀(t':List Td),t'=cD ltT nr x->ob (Zw i) (ae (PX.normal,S.mk 93 (wV a::pR l::Bn t'::ZL i) (I1 t'))))))))) else ae (PX.exit 0,S.mk 93 [Bn s] (I1 s)) else ae (PX.exit 0,S.mk 93 [Bn s] (I1 s)))=(aD [] [(7,ah (aK 85 7) qgH),(13,ah (aK 85 13) qgI)] 85 3 (rsA a l s i)) ae:=by kernel_rfl
def qgJ:S->K (PX×S):=λs ae=> ∃a l,s=rsA a l [] 0/\(a.length<=1000000/\l.length=a.length)/\ ∀t,t=ET a l->ae (.exit 0,⟨93,[(5,.sl 0 0 t.length)],[(0,⟨0,none,rI false t⟩)]⟩)
def ZaL(gX:List av)(au:List Pl):S:=S.mk 93 (wV gX::pR au::Vy) [(0,En.mk 0 none (Obj.arr (155:TypeId) false []))]
theorem qjM(a:List av)(l:List Pl)(ae:P×List (Nat×En)->Prop):(∃(gX:List av) (au:List Pl),ZaL a l=ZaL gX au/\(nu gX/\jR au=fF gX)/\ ∀(t:List Td),t=ET gX au->ae (P.sl 0 0 (List.length t),I1 t))=(aJ [] [(3,ah (aK 85 3) qgJ)] 85 [cI a,eL l] []) ae:=by kernel_rfl
def qgK:bg:=λps R ae=> ∃a l,ps=[cI a,eL l]/\R=[]/\(a.length<=1000000/\l.length=a.length)/\ ∀t,t=ET a l->ae (.sl 0 0 t.length,[(0,⟨0,none,rI false t⟩)])
def qgL:bg:=λps R ae=> ∃l x y,ps=[.sl 0 0 l.length,.d (bV x),.d (bV y)]/\R=Da false l/\l.length<=1000000/\ ∀b,b=within l x y->ae (.d (.bool b),Da false l)
abbrev rpA(t:List Td)(o:List Pl)(i:Int):S:=⟨96,[(5,.sl 0 0 t.length),(6,.sl 1 0 o.length),(7,iD i)],[(0,⟨0,none,rI false t⟩),(1,⟨0,none,qO false o⟩)]⟩
abbrev rpB(t:List Td)(o:List Pl)(m:Nat)(i k:Int):S:=⟨96,[(5,.sl 0 0 t.length),(6,.sl 1 0 m),(7,iD i),(10,iD k)],[(0,⟨0,none,rI false t⟩),(1,⟨0,none,qO false o⟩)]⟩
def ZaP(ae:PX×S->Prop)(t:List Td)(m:Nat)(i:Int)(o:List Pl):Prop:=ae (PX.exit 2,S.mk 96 [Bn t,K9 m,o5 i] (Dw t::Im o))
def N3(o:List Pl)(k:Int):D:=D.nth (gh o) (Zc k)
def ZaN(o:List Pl)(k:Int):List D:=List.set (gh o) (Zt k) (D.aP (D.agg (QV o k)) [D.int .i64 (D.aj (D.ar (N3 o k) 0)),D.int .i64 (D.aj (D.ar (N3 o k) 1)),D.int .i64 (D.aj (D.ar (N3 o k) 2)),D.int .i64 (D.aj (D.ar (N3 o k) 3)),D.int .i64 (D.aj (D.ar (N3 o k) 4)),D.int .i64 (D.aj (D.ar (N3 o k) 5)),D.str (D.cK (D.ar (N3 o k) 6)),D.bool (D.eG (D.ar (N3 o k) 7))])
def YH(o:List Pl)(k:Int):D:=D.nth (ZaN o k) (Zc k)
theorem qjN(t:List Td)(o:List Pl)(m:Nat)(i k:Int)(ae:PX×S->Prop):(bif ZF k then ob (l8 k m) (ob (Jy k o) (ob (pV o k) (ob (Zb k) (ob (uZ k m) (ob (decide (Zc k<rb o)) (ob (cw PR (104:TypeId) (N3 o k)) (∃(nr:Int) (r:Int) (bb:Int) (t':Int) (r':Int) (i':Int),[K5 o k,P.d (D.agg [D.int .i64 (D.aj (D.ar (N3 o k) 0)),D.int .i64 (D.aj (D.ar (N3 o k) 1)),D.int .i64 (D.aj (D.ar (N3 o k) 2))])]=P.d (D.agg (Zk nr::Zk r::Zl bb))::AV t' r' i'/\Zo/\bif Ub nr r bb t' r' i' then ob (Zb k) (ob (Zb k) (ob (uZ k m) (ob (decide (Zc k<rb o)) (ob (cw PR (104:TypeId) (N3 o k)) (ob (l8 k m) (ob (Jy k o) (ob (pV o k) (ob (l8 k m) (ob (Jy k o) (ob (pV o k) (ob (uZ k m) (ob (decide (Zc k<List.length (ZaN o k))) (ob (cw PR (104:TypeId) (YH o k)) (ob (Zb k) (ae (PX.normal,S.mk 96 (Bn t::K9 m::o5 i::Z8S k) [Dw t,(1,En.mk 0 none (Obj.arr (104:TypeId) false (List.set (ZaN o k) (Zc k) (D.aP (D.agg [D.int .i64 (D.aj (D.ar (YH o k) 0)),D.int .i64 (D.aj (D.ar (YH o k) 1)),D.int .i64 (D.aj (D.ar (YH o k) 2)),D.int .i64 (D.aj (D.ar (YH o k) 3)),D.int .i64 (D.aj (D.ar (YH o k) 4)),D.int .i64 (D.aj (D.ar (YH o k) 5)),D.str (D.cK (D.ar (YH o k) 6)),D.bool (D.eG (D.ar (YH o k) 7))]) (QV o k)))))])))))))))))))))) else ZaP ae t m i o))))))) else ZaP ae t m i o)=(aD [(88,gG)] [] 55 14 (rpB t o m i k)) ae:=by kernel_rfl
def qgM:S->K (PX×S):=λs ae=> ∃t o x m i k,s=rpB t (o++[x]) m i k/\(k=(o.length:Int)/\m=o.length+1/\o.length<=1000000)/\ ∀o',o'=cD ltN o x->ae (.exit 2,rpA t o' i)
def ZaR(o:List Pl)(t:List Td)(i:Int):Nat:=jR o+List.length [D.agg (ZaE t i)]
def ZaS(t:List Td)(i:Int):List P:=[P.d (D.agg [Zay t i,Zaz t i,ZaA t i])]
def ZaQ(t:List Td)(o:List Pl)(i:Int):List (Nat×P):=Bn t::(6,P.sl 1 0 (jR o))::ZT i
theorem qdO(t:List Td)(o:List Pl)(i:Int)(ae:PX×S->Prop):(bif decide (i<(↑(List.length t):Int)) then ob (decide ((0:Int)<=i/\i<(↑(List.length t):Int))) (ob (YG i t) (ob (cw PR (155:TypeId) (sV t i)) (bif D.aj (D.ar (sV t i) 3)==(0:Int)&&(D.aj (D.ar (sV t i) 4)==(0:Int)&&true)&&(D.aj (D.ar (sV t i) 5)==(0:Int)&&true) then ob (Zw i) (ae (PX.normal,S.mk 96 (ZaQ t o i) (Dw t::Im o))) else∃(l:List Pl) (x:av) (y:av),r5 o::P.d (D.agg [ZaB t i,ZaC t i,ZaD t i])::ZaS t i=r5 l::l9 x::e8 y/\Z2A o=Z2A l/\o4 l/\ ∀(b:Bool),b=within l x y->bif b then ob (Zw i) (ae (PX.normal,S.mk 96 (ZaQ t o i) (Dw t::Im l))) else∃(au:List Pl) (x:av),r5 o::ZaS t i=r5 au::e8 x/\Z2A l=Z2A au/\o4 au/\bif decide (eR au x>=(0:Int)) then ob (decide ((0:Int)<=eR au x/\eR au x<(↑(jR o):Int))) (ob (Z2u au x) (ob (cw PR (104:TypeId) (FW au x)) (ob (decide ((0:Int)<=eR au x/\eR au x<(↑(jR o):Int))) (ob (Z2u au x) (ob (cw PR (104:TypeId) (FW au x)) (ob (Zw i) (ae (PX.normal,S.mk 96 (ZaQ t o i) [Dw t,(1,En.mk 0 none (Obj.arr (104:TypeId) false (List.set (gh au) (Int.toNat (eR au x)) (D.aP (D.agg [D.int .i64 (D.aj (D.ar (FW au x) 0)),D.int .i64 (D.aj (D.ar (FW au x) 1)),D.int .i64 (D.aj (D.ar (FW au x) 2)),D.int .i64 (D.aj (D.ar (FW au x) 3)),D.int .i64 (D.aj (D.ar (FW au x) 4)),D.int .i64 (D.aj (D.ar (FW au x) 5)),D.str (D.cK (D.ar (FW au x) 6)),D.bool (D.eG (D.ar (FW au x) 7))]) [Zay t i,Zaz t i,ZaA t i,ZaB t i,ZaC t i,ZaD t i,D.str (D.cK (D.ar (sV t i) 9)),D.bool (D.eG (D.ar (FW au x) 7))]))))])))))))) else ob (Nat.ble (jR o) (rb au)&&aI (ZaR o t i) 72) (ob (decide (Z9<=(↑(ZaR o t i):Int)-(1:Int)/\(↑(ZaR o t i):Int)-(1:Int)<=Za)) (∃(nr:List Td) (aU:List Pl) (x:Pl) (m:Nat) (bb:Int) (k:Int),S.mk 96 [Bn t,(6,P.sl 1 0 (ZaR o t i)),o5 i,(10,P.d (D.int .i64 ((↑(ZaR o t i):Int)-(1:Int))))] [Dw t,(1,En.mk 0 none (Obj.arr (104:TypeId) false (List.take (jR o) (gh au)++[D.agg (ZaE t i)])))]=S.mk 96 [Bn nr,K9 m,o5 bb,w7 k] [Dw nr,(1,En.mk 0 none (Obj.arr (104:TypeId) false (List.map eB (aU++[x]))))]/\(k=(↑(jR aU):Int)/\m=jR aU+1/\o4 aU)/\ ∀(o':List Pl),o'=cD ltN aU x->ob (Zw bb) (ae (PX.normal,S.mk 96 (ZaQ nr o' bb) (Dw nr::Im o')))))))) else ae (PX.exit 0,S.mk 96 [(6,r5 o)] (ux o)))=(aD [(86,qgL),(87,Ii)] [(14,ah (aK 55 14) qgM)] 55 4 (rpA t o i)) ae:=by kernel_rfl
def qgN:S->K (PX×S):=λs ae=> ∃t,s=rpA t [] 0/\t.length<=1000000/\ ∀o,o=Lc t->ae (.exit 0,⟨96,[(6,.sl 0 0 o.length)],[(0,⟨0,none,qO false o⟩)]⟩)
def ZaT(nr:List Td):S:=S.mk 96 (Bn nr::Z3y) [Dw nr,(1,ya)]
theorem qlR(a:List av)(l:List Pl)(ae:P×List (Nat×En)->Prop):(∃(gX:List av) (au:List Pl),[gJ a,iG l]=[gJ gX,iG au]/\Zo/\(nu gX/\jR au=fF gX)/\ ∀(t:List Td),t=ET gX au-> ∃(nr:List Td),ZaT t=ZaT nr/\List.length nr<=1000000/\ ∀(o:List Pl),o=Lc nr->ae (r5 o,ux o))=(aJ [(85,qgK)] [(4,ah (aK 55 4) qgN)] 55 [cI a,eL l] []) ae:=by kernel_rfl
def qgO:bg:=λps R ae=> ∃a l,ps=[cI a,eL l]/\R=[]/\(a.length<=1000000/\l.length=a.length)/\ ∀o,o=Lc (ET a l)->ae (.sl 0 0 o.length,[(0,⟨0,none,qO false o⟩)])
theorem I3(x:Td):cw PR 155 (rl x)=true:=by kernel_rfl
section
variable{X:XF}
theorem qjO:FD X 86 qgL:=qdq.weaken λps R ae h=>by obtain⟨l,x,y,rfl,rfl,hm,hp⟩:=h;exact⟨false,l,x,y,rfl,rfl,hm,hp⟩
theorem qck:LD X 85 7 (ah (aK 85 7) qgH):=LD.idx (H:=[]) (hk:=[]) (by kernel_rfl) (by kernel_rfl) .nil .nil
 (A:=List av×List Pl×List Td×Int×av) (B:=Bool) (λa b k=>rsB a.1 a.2.1 a.2.2.1 a.2.2.2.1 b k) (λa=>a.2.2.1.length) (λa k b=>(a.2.2.1.length<=1000000/\0<=a.2.2.2.1/\a.2.2.2.1<a.1.length/\D.nth (a.1.map bV) a.2.2.2.1.toNat=bV a.2.2.2.2)/\b=((a.2.2.1.take k).any λx=>x.1==a.2.2.2.2))
 (λa x=>x=(.exit 2,⟨93,[(0,cI a.1),(1,eL a.2.1),(5,.sl 0 0 a.2.2.1.length),(6,iD a.2.2.2.1),(7,.d (.bool (a.2.2.1.any λx=>x.1==a.2.2.2.2)))],[(0,⟨0,none,rI false a.2.2.1⟩)]⟩))
 (by
  rintro⟨a,l,t,i,y⟩ b k ae h0 tU du ⟨⟨hm,pT,bK,hy⟩,hb⟩ hn ho
  try dsimp only at*
  (rw[<-qdM];delta dV uy Zt fg FT FU FV vN oi wW Jz sV YG Dw I1 ZA pW ZW Zk Zm ZS Bn gh iG pR gJ wV Za Z9 Zw)
  have e1:D.nth (t.map rl) k.toNat=rl t[k.toNat]:=ax _ _ _ du;have jS:(t.take (k.toNat+1)).any (λx=>x.1==y)=(b ||t[k.toNat].1==y):=by rw[zae du,zcu,hb];simp
  rw[e1,hy];generalize t[k.toNat]=z at*
  simp only[zaa];refine bn tU ?_;have v:(D.aj (D.ar (rl z) 0)==D.aj (D.ar (bV y) 0)&&(D.aj (D.ar (rl z) 1)==D.aj (D.ar (bV y) 1)&&true)&&(D.aj (D.ar (rl z) 2)==D.aj (D.ar (bV y) 2)&&true))=(z.1==y):=F6 z.1 y;rw[v];refine aA (λA8=>ao (by omega) (hn true ⟨⟨hm,pT,bK,hy⟩,by rw[jS,A8,zco]⟩)) λw6=>ao ⟨h0,tU⟩ (ao (by first |exact du |simpa using du) (aq (I3 _) (ao ⟨pT,bK⟩ (aq (mg _) (ao (by omega) (hn _ ⟨⟨hm,pT,bK,hy⟩,by rw[jS,w6,zbu]⟩)))))))
 (by
  rintro⟨a,l,t,i,y⟩ b k ae hk ⟨⟨hm,pT,bK,hy⟩,hb⟩ ho
  try dsimp only at*
  (rw[<-qdM];delta dV uy Zt fg FT FU FV vN oi wW Jz sV YG Dw I1 ZA pW ZW Zk Zm ZS Bn gh iG pR gJ wV Za Z9 Zw)
  refine jU (by omega) (ho _ (λh=>by cases h) ?_);rw[hb,zaj])
 (by rintro s ae ⟨a,l,t,i,hi,rfl,⟨h1,h2,h3⟩,hp⟩;refine⟨(a,l,t,i,a[i.toNat]),false,rfl,⟨⟨h1,h2,h3,ax _ _ _ hi⟩,by simp⟩,?_⟩;rintro x rfl;exact hp _ rfl)
theorem qcl:LD X 85 13 (ah (aK 85 13) qgI):=LD.ins (H:=[(88,gG)]) (hk:=[]) (by kernel_rfl) (by kernel_rfl) (.cons lK .nil) .nil
 (A:=List av×List Pl×Nat×Int) (α:=Td) (λa o k=>rsC a.1 a.2.1 o a.2.2.1 a.2.2.2 k) ltT (λa=>a.2.2.1) (λ_=>True) (λa o=>(.exit 4,⟨93,[(0,cI a.1),(1,eL a.2.1),(5,.sl 0 0 a.2.2.1),(6,iD a.2.2.2)],[(0,⟨0,none,rI false o⟩)]⟩)) (λ_ _ h=>by cases h)
 (by
  rintro⟨a,l,n,i⟩ o k ae _ h0 xt k9 hk hz bS cv
  try dsimp only at*
  subst xt
  (rw[<-qjL];delta Dw I1 Zk Zm ZS Bg Zt sV ZaD ZaC ZaB ZaA Zaz Zay ZaE ZaF ZG Z3t ZM ZN gh iG pR fg gJ wV Zc I2 ZaG Ql Ub Zo Zl AV uZ Za Z9 Zb YG l8 ZF)
  refine cr (λhp=> ?_) λhp=>hz (by omega);have ft:k.toNat-1<o.length:=by omega
  have ek:(k-1).toNat=k.toNat-1:=by omega
  have e1:D.nth (o.map rl) k.toNat=rl o[k.toNat]:=ax _ _ _ hk;have e2:D.nth (o.map rl) (k.toNat-1)=rl o[k.toNat-1]:=ax _ _ _ ft;have bS:=bS hp;have cv:=cv hp;have vZ:=jj rl o k.toNat o[k.toNat] o[k.toNat-1];have e3: ∀z,D.nth ((o.map rl).set k.toNat z) (k.toNat-1)=rl o[k.toNat-1]:=λz=>by unfold D.nth;rw[zad,za3 (by omega)];simp[ft]
  rw[ek,e1,e2];simp only[e3];generalize o[k.toNat]=x at*
  generalize o[k.toNat-1]=y at*
  simp only[zaa,zbj] at cv⊢;have v7:0<=k/\k<(o.length:Int):=⟨h0,by omega⟩
  have v8:0<=k-1/\k-1<(o.length:Int):=⟨by omega,by omega⟩
  have hf:(-9223372036854775808:Int)<=k-1/\k-1<=9223372036854775807:=by omega
  refine ao v7 (ao hk (aq (I3 _) (ao hf (ao v8 (ao ft (aq (I3 _) ⟨(x.1).1,(x.1).2.1,(x.1).2.2,(y.1).1,(y.1).2.1,(y.1).2.2,rfl,rfl,cr (λh=> ?_) λh=>bS (by rw[<-zaQ];exact λh2=>h ((il (x.1) (y.1)).2 h2))⟩))))));have hy:=cv ((il (x.1) (y.1)).1 h);simp only[rsC,rI] at hy;rw[<-vZ] at hy;refine ao hf (ao hf (ao v8 (ao ft (aq (I3 _) (ao v7 (ao hk (aq (I3 _) (ao v7 (ao hk (aq (I3 _) (ao v8 (ao ft (aq (I3 _) (ao hf ?_))))))))))))));exact hy)
 (by rintro s ae ⟨a,l,o,x,n,i,k,rfl,⟨hk,hn,ho⟩,hp⟩;refine⟨(a,l,n,i),o,x,k,rfl,hk,trivial,⟨hn.symm,ho⟩,?_⟩;have:=hp _ rfl;rw[rsA,jN,<-hn] at this;exact this)
theorem qcm{a:List av}{l:List Pl}{i:Nat}(h:i<a.length)(h2:i<l.length):ET (a.take (i+1)) (l.take (i+1))=Yq (ET (a.take i) (l.take i)) (a[i],l[i]):=by unfold ET;rw[zae h,zae h2,List.zip_append (by rw[zas,zas];omega),za7];rfl
theorem qcn:LD X 85 3 (ah (aK 85 3) qgJ):=LD.idx (H:=[]) (hk:=[(7,ah (aK 85 7) qgH),(13,ah (aK 85 13) qgI)]) (by kernel_rfl) (by kernel_rfl) .nil (.cons qck (.cons qcl .nil))
 (A:=List av×List Pl) (B:=List Td) (λa t i=>rsA a.1 a.2 t i) (λa=>a.1.length) (λa i t=>(a.1.length<=1000000/\a.2.length=a.1.length)/\t=ET (a.1.take i) (a.2.take i))
 (λa x=>x=(.exit 0,⟨93,[(5,.sl 0 0 (ET a.1 a.2).length)],[(0,⟨0,none,rI false (ET a.1 a.2)⟩)]⟩))
 (by
  rintro⟨a,l⟩ t i ae h0 bK aQ ⟨hm,ht⟩ hn ho
  try dsimp only at*
  (rw[<-qdN];delta Zk Zm Yp ZM ZN ZS Za Zt gh oh K2 K3 K4 QV fg FT FU FV ZaJ ZaK Z9 pV rb C9 vN oi wW Jz Dw I1 ZA ZL Bn iG pR gJ wV Zw fF vb Z7 tu Z3 ZaI Nh QU)
  have Qm:i.toNat<l.length:=by omega
  have htl:t.length<=i.toNat:=by have:=rf (a.take i.toNat) (l.take i.toNat);rw[zas] at this;rw[ht];omega
  have e1:D.nth (a.map bV) i.toNat=bV a[i.toNat]:=ax _ _ _ aQ;have e2:D.nth (l.map eB) i.toNat=eB l[i.toNat]:=ax _ _ _ Qm;have iv:=qcm aQ Qm;rw[<-ht] at iv;have bZ:=λt' (h:t'=Yq t (a[i.toNat],l[i.toNat]))=>hn t' ⟨hm,by rw[iv];exact h⟩;simp only[zaa];refine bn bK (bn (by omega) ⟨a,l,t,i,aQ,rfl,⟨by omega,h0,bK⟩,λb hb=> ?_⟩);rw[e1,e2];generalize a[i.toNat]=x at*
  generalize l[i.toNat]=p at*
  refine aA (λA8=>ao (by omega) (bZ t ?_)) λw6=> ?_
  ·unfold Yq;rw[zap (by rw[<-hb];exact A8)]
  have VF:Yq t (x,p)=cD ltT t (x,p):=by unfold Yq;rw[zan (by rw[<-hb,w6];simp)]
  have t1:List.take t.length (t.map rl)++[rl (x,p)]=(t++[(x,p)]).map rl:=bO rl t (x,p);simp only[zao,zat,zaF];refine ao ⟨h0,bK⟩ (aq (mg _) (ao ⟨h0,by omega⟩ (aq (ij _) (aq ?_ (ao (by omega) ⟨a,l,t,(x,p),t.length+1,i,((t.length+1:Nat):Int)-1,congrArg (λz=>(⟨93,[(0,cI a),(1,eL l),(5,.sl 0 0 (t.length+1)),(6,iD i),(9,iD (((t.length+1:Nat):Int)-1))],[(0,⟨0,none,.arr 155 false z⟩)]⟩:S)) t1,⟨by omega,rfl,by omega⟩,λt' ht'=>ao (by omega) (bZ t' (by rw[VF];exact ht'))⟩)))));rw[zab];exact⟨by simp,cd (by omega) (by omega)⟩)
 (by
  rintro⟨a,l⟩ t i ae hi ⟨hm,ht⟩ ho
  try dsimp only at*
  (rw[<-qdN];delta Zk Zm Yp ZM ZN ZS Za Zt gh oh K2 K3 K4 QV fg FT FU FV ZaJ ZaK Z9 pV rb C9 vN oi wW Jz Dw I1 ZA ZL Bn iG pR gJ wV Zw fF vb Z7 tu Z3 ZaI Nh QU)
  refine jU (by simp only[zaa];omega) (ho _ (λh=>by cases h) ?_);rw[ht,zaj,<-hm.2,zaj])
 (by rintro s ae ⟨a,l,rfl,hm,hp⟩;refine⟨(a,l),[],rfl,⟨hm,rfl⟩,?_⟩;rintro x rfl;exact hp _ rfl)
theorem qjP:FD X 85 qgK:=FD.mk (H:=[]) (hk:=[(3,ah (aK 85 3) qgJ)]) (by kernel_rfl) .nil (.cons qcn .nil) (by
 intro ps R ae hh;obtain⟨a,l,rfl,rfl,hm,hp⟩:=hh
 (rw[<-qjM];delta Dw I1 fF jR nu Z7 JE ZY Vy gh iG pR fg gJ wV ZaL)
 exact⟨a,l,rfl,hm,λt ht=>hp t ht⟩)
theorem qco:LD X 55 14 (ah (aK 55 14) qgM):=LD.ins (H:=[(88,gG)]) (hk:=[]) (by kernel_rfl) (by kernel_rfl) (.cons lK .nil) .nil
 (A:=List Td×Nat×Int) (α:=Pl) (λa o k=>rpB a.1 o a.2.1 a.2.2 k) ltN (λa=>a.2.1) (λ_=>True) (λa o=>(.exit 2,⟨96,[(5,.sl 0 0 a.1.length),(6,.sl 1 0 a.2.1),(7,iD a.2.2)],[(0,⟨0,none,rI false a.1⟩),(1,⟨0,none,qO false o⟩)]⟩)) (λ_ _ h=>by cases h)
 (by
  rintro⟨t,m,i⟩ o k ae _ h0 xt k9 hk hz bS cv
  try dsimp only at*
  subst xt
  (rw[<-qjN];delta gh JA Im Dw Zk Zm o5 K9 Bn ZaP Zt oh K2 K3 K4 QV ZG Z8S Zc N3 ZaN YH Ub Zo Zl AV K5 rb uZ Za Z9 Zb pV Jy l8 ZF)
  refine cr (λhp=> ?_) λhp=>hz (by omega);have ft:k.toNat-1<o.length:=by omega
  have ek:(k-1).toNat=k.toNat-1:=by omega
  have e1:D.nth (o.map eB) k.toNat=eB o[k.toNat]:=ax _ _ _ hk;have e2:D.nth (o.map eB) (k.toNat-1)=eB o[k.toNat-1]:=ax _ _ _ ft;have bS:=bS hp;have cv:=cv hp;have vZ:=jj eB o k.toNat o[k.toNat] o[k.toNat-1];have e3: ∀z,D.nth ((o.map eB).set k.toNat z) (k.toNat-1)=eB o[k.toNat-1]:=λz=>by unfold D.nth;rw[zad,za3 (by omega)];simp[ft]
  rw[ek,e1,e2];simp only[e3];generalize o[k.toNat]=x at*
  generalize o[k.toNat-1]=y at*
  simp only[zaa,zbj] at cv⊢;have v7:0<=k/\k<(o.length:Int):=⟨h0,by omega⟩
  have v8:0<=k-1/\k-1<(o.length:Int):=⟨by omega,by omega⟩
  have hf:(-9223372036854775808:Int)<=k-1/\k-1<=9223372036854775807:=by omega
  refine ao v7 (ao hk (aq (ij _) (ao hf (ao v8 (ao ft (aq (ij _) ⟨(x.1).1,(x.1).2.1,(x.1).2.2,(y.1).1,(y.1).2.1,(y.1).2.2,rfl,rfl,cr (λh=> ?_) λh=>bS (by rw[<-zaQ];exact λh2=>h ((il (x.1) (y.1)).2 h2))⟩))))));have hy:=cv ((il (x.1) (y.1)).1 h);simp only[rpB,qO,rI] at hy;rw[<-vZ] at hy;refine ao hf (ao hf (ao v8 (ao ft (aq (ij _) (ao v7 (ao hk (aq (ij _) (ao v7 (ao hk (aq (ij _) (ao v8 (ao ft (aq (ij _) (ao hf ?_))))))))))))));exact hy)
 (by rintro s ae ⟨t,o,x,m,i,k,rfl,⟨hk,hn,ho⟩,hp⟩;refine⟨(t,m,i),o,x,k,rfl,hk,trivial,⟨hn.symm,ho⟩,?_⟩;have:=hp _ rfl;rw[rpA,jN,<-hn] at this;exact this)
theorem qcp{t:List Td}{i:Nat}(h:i<t.length):Lc (t.take (i+1))=Ui (Lc (t.take i)) t[i]:=by unfold Lc;rw[zae h,za7];rfl
theorem qcq:LD X 55 4 (ah (aK 55 4) qgN):=LD.idx (H:=[(86,qgL),(87,Ii)]) (hk:=[(14,ah (aK 55 14) qgM)]) (by kernel_rfl) (by kernel_rfl) (.cons qjO (.cons Ud .nil)) (.cons qco .nil)
 (A:=List Td) (B:=List Pl) (λt o i=>rpA t o i) (λt=>t.length) (λt i o=>t.length<=1000000/\o=Lc (t.take i))
 (λt x=>x=(.exit 0,⟨96,[(6,.sl 0 0 (Lc t).length)],[(0,⟨0,none,qO false (Lc t)⟩)]⟩))
 (by
  rintro t o i ae h0 bK aQ ⟨hm,ho⟩ hn aT
  (rw[<-qdO];delta gh JA ux Zk Zm w7 K9 Zt sV ZaD ZaC ZaB ZaA Zaz Zay ZaE o5 Bn Za Z9 jR ZaR rb FW Z2u o4 Z2A eX eY e7 eN eO l9 e8 ZaS r5 Im Dw ZA ZT ZaQ Zw YG)
  have k9:o.length<=i.toNat:=by have:=uz (t.take i.toNat);rw[zas] at this;rw[ho];omega
  have e1:D.nth (t.map rl) i.toNat=rl t[i.toNat]:=ax _ _ _ aQ;have iv:=qcp aQ;rw[<-ho] at iv;have bZ:=λo' (h:o'=Ui o t[i.toNat])=>hn o' ⟨hm,by rw[iv];exact h⟩;rw[e1];generalize t[i.toNat]=y at*
  have v:(D.aj (D.ar (rl y) 3)==0&&(D.aj (D.ar (rl y) 4)==0&&true)&&(D.aj (D.ar (rl y) 5)==0&&true))=(y.2.1==aB):=F6 y.2.1 aB;have qlS:i.toNat<(t.map rl).length:=by rw[zaa];exact aQ
  rw[v];simp only[zao,zat,zaF];refine bn bK (ao ⟨h0,bK⟩ (ao qlS (aq (I3 _) ?_)));refine aA (λhr=>ao (by omega) (bZ o ?_)) λhr=>⟨o,y.2.2.1,y.2.1,rfl,rfl,by omega,λb hb=>aA (λA8=>ao (by omega) (bZ o ?_)) λw6=>⟨o,y.2.1,rfl,rfl,by omega,cr (λGJ=> ?_) λGJ=> ?_⟩⟩
  ·unfold Ui;rw[zap (.inl (by simpa using hr))]
  ·unfold Ui;rw[zap (.inr (by rw[<-hb];exact A8))]
  ·have bS: ¬(y.2.1=aB\/within o y.2.2.1 y.2.1=true):=λhh=>hh.elim (λe=>by rw[e] at hr;simp at hr) (λe=>by rw[<-hb,w6] at e;cases e);have Dl:(eR o y.2.1).toNat<o.length:=by
    rcases sN (λp:Pl=>p.1==y.2.1) o with⟨k,p,h2,h3,h4⟩| ⟨h2,h3⟩
    ·have hk:k<o.length:=(zaf.1 h2).1;have e:eR o y.2.1=(k:Int):=h4;omega
    have e:eR o y.2.1= -1:=h2;omega
   have My:(eR o y.2.1).toNat<(o.map eB).length:=by rw[zaa];exact Dl
   have hy:=bZ (o.set (eR o y.2.1).toNat (y.2.1,y.2.2.1,y.2.2.2.1,(o.getD (eR o y.2.1).toNat uh).2.2.2)) (by unfold Ui;rw[zan bS,zap GJ]);rw[jf Dl];generalize o.getD (eR o y.2.1).toNat uh=q at*
   simp only[rpA,qO,rI,zcd,zbj] at hy;refine ao ⟨GJ,by omega⟩ (ao My (aq (ij _) (ao ⟨GJ,by omega⟩ (ao My (aq (ij _) (ao (by omega) ?_))))));exact hy
  have bS: ¬(y.2.1=aB\/within o y.2.2.1 y.2.1=true):=λhh=>hh.elim (λe=>by rw[e] at hr;simp at hr) (λe=>by rw[<-hb,w6] at e;cases e);have t1:List.take o.length (o.map eB)++[eB y.2]=(o++[y.2]).map eB:=bO eB o y.2;refine aq ?_ (ao (by omega) ⟨t,o,y.2,o.length+1,i,((o.length+1:Nat):Int)-1,congrArg (λz=>(⟨96,[(5,.sl 0 0 t.length),(6,.sl 1 0 (o.length+1)),(7,iD i),(10,iD (((o.length+1:Nat):Int)-1))],[(0,⟨0,none,rI false t⟩),(1,⟨0,none,.arr 104 false z⟩)]⟩:S)) t1,⟨by omega,rfl,by omega⟩,λo' ff=>ao (by omega) (bZ o' (by unfold Ui;rw[zan bS,zan GJ];exact ff))⟩);rw[zab];exact⟨by simp,cd (by omega) (by omega)⟩)
 (by
  rintro t o i ae hi ⟨hm,ho⟩ aT
  (rw[<-qdO];delta gh JA ux Zk Zm w7 K9 Zt sV ZaD ZaC ZaB ZaA Zaz Zay ZaE o5 Bn Za Z9 jR ZaR rb FW Z2u o4 Z2A eX eY e7 eN eO l9 e8 ZaS r5 Im Dw ZA ZT ZaQ Zw YG)
  refine jU (by first |omega | (simp only[zaa];omega)) (aT _ (λh=>by cases h) ?_);rw[ho,zaj])
 (by rintro s ae ⟨t,rfl,hm,hp⟩;refine⟨t,[],rfl,⟨hm,rfl⟩,?_⟩;rintro x rfl;exact hp _ rfl)
theorem qjQ:FD X 55 qgO:=FD.mk (H:=[(85,qgK)]) (hk:=[(4,ah (aK 55 4) qgN)]) (by kernel_rfl) (.cons qjP .nil) (.cons qcq .nil) (by
 intro ps R ae hh;obtain⟨a,l,rfl,rfl,hm,hp⟩:=hh
 (rw[<-qlR];delta gh JA ux jR r5 ya Dw Z7 pU rE Z3y Bn ZaT fF nu Zo iG fg gJ)
 have:=rf a l;exact⟨a,l,rfl,rfl,hm,λt ht=>⟨t,rfl,by rw[ht];omega,λo ho=>hp o (by rw[ho,ht])⟩⟩)
end
end Pi
