/- The texts Wi1 Wi1H QP Iv1 Iv1H Iv2 Iv2H EfP HiP VwP T8 Wk T8H T9 T9H RfP SoP CmI Wi2 Wi2H Wi3 Wi3H Wi4 Wi4H Hi1 Hi1H SR LnP InsP Ef1 Ef1H Pb1 Pb1H PbP Pb2 Pb2H LiP Ef2 Ef2H Ef3 Ef3H Rd RdH Li1 Li1H TellP Iv3 Iv3H Ef4. -/
import Derived.Test.YtdgkdigdflkjhaaGreatDoorEad
open Option renaming some→Z,none→Y
open Bool renaming false→C,true→O
open List renaming length→J
open Go renaming TypeId→I,Value→W,Program→M
open List renaming map→aa,take→ab,replicate→ee,take_succ_eq_append_getElem→i6,count→ss,reverse→th,set→tz
open Prod renaming fst→ba,snd→bl
open Nat renaming beq→bo,ble→gr,eq_of_beq_eq_true→mi,testBit→mm
open Int renaming toNat→dd,tmod→so
open ByteArray renaming mk→gz
open Option renaming isSome→ir,map→i7
open Array renaming replicate→pt,range→te
open Pi.D renaming int→ue,aq→vc,aj→AC,agg→AM,nth→BC,str→FS,bool→ID,sl→IM,dq→NO,cq→Q1,c8→Q3
open Pi.En renaming mk→we
open Pi.PX renaming normal→xz,exit→CE,ret→Q2
open Pi.S renaming mk→AD
open Pi.Obj renaming arr→AS,box→GT,map→HH,iter→Q4
open Pi.P renaming d→Cs,sl→If,ref→RK
open Go.Op renaming operands→Do,bytesLess→IT,equalIn→PM
open Go.IntKind renaming i64→DD
open Pi.K renaming fail→GE,bind→IH
open Pi.KW renaming fail→H1,bind→IR,ret→IS,dN→PP
open Pi.FD renaming mk→IN
open Pi.Ext renaming refl→Mo
open Pi.Names renaming refl→Nm
open Pi.Code renaming nv→No
open Go.Instr renaming sliceBound→Of,sliceBounds→OF
open Go.Builtin renaming zeroCells→OK
namespace Pi
open Go Go.Proofs
set_option maxRecDepth 100000
set_option maxHeartbeats 0
abbrev iE(n:Int):D:= .int DD n
def bX(s:aN):D:= .agg [iE s.1,iE s.2]
def eX(o:bq):D:= .agg [iE o.kind,iE o.node.1,iE o.node.2.1,iE o.node.2.2,iE o.parent.1,iE o.parent.2.1,iE o.parent.2.2,.str o.name,.bool o.dir,.sl 2 (o.cV.map bX),
 iE o.after.1,iE o.after.2.1,iE o.after.2.2,iE o.elem.1,iE o.elem.2.1,iE o.elem.2.2,.str o.text,.sl 3 (o.elems.map aF)]
def dp(g:au):D:= .agg [iE g.s.1,iE g.s.2,iE g.n,.sl 1 (bL g.deps),iE g.je.1,iE g.je.2,.sl 18 (g.ops.map eX)]
abbrev ey(l:List au):P:= .d (.sl 7 (l.map dp))
abbrev qiW(l:List bq):P:= .d (.sl 18 (l.map eX))
abbrev mR(l:List aN):P:= .d (.sl 2 (l.map bX))
structure T9(a b:aN)(c:Int):Prop where
 lt:c<0↔pq a b=O
 gt:c>0↔pq b a=O
structure Ro(a b:ak)(c:Int):Prop where
 lt:c<0↔kr a b=O
 gt:c>0↔kr b a=O
def Rp:bc:=λps R E=> ∃a b,ps=[.d (bX a),.d (bX b)]/\R=[]/\ ∀c,T9 a b c->E (iD c,[])
def Aa:bc:=λps R E=> ∃x y,ps=[.d (aF x),.d (aF y)]/\R=[]/\ ∀c,Ro x y c->E (iD c,[])
def O8:bc:=λps R E=> ∃s,ps=[.d (bX s)]/\R=[]/\ ∀b,b=LB s->E (lG b,[])
def qdX:bc:=λps R E=> ∃x,ps=[.d (aF x)]/\R=[]/\ ∀b,b=rgX x->E (lG b,[])
def Fq:bc:=λps R E=> ∃a b,ps=[.d (bX a),.d (bX b)]/\R=[]/\ ∀r,r=pq a b->E (lG r,[])
abbrev ckB(g:au)(k:Int):Obj:= .box 136 [iD g.s.1,iD g.s.2,iD g.n,.d (.sl 1 (bL g.deps)),iD g.je.1,iD g.je.2,qiW g.ops,iD k]
abbrev yY(g:au)(k:Int):List (Nat×En):=[(0,⟨0,Z 0,ckB g k⟩)]
theorem qmQ(s:aN) E:(bif decide (ba s>=(1:Int)) then bif decide (ba s<=(1099511627776:Int)) then bif decide (bl s>=(1:Int)) then E (Cs (ID (decide (bl s<=(16:Int)))),[]) else Z3 E else Z3 E else Z3 E)=(aO [] [] 68 [.d (bX s)] []) E:=by kernel_rfl
theorem qiX(s:aN) E:(bif decide (ba s>=(1:Int)) then bif decide (ba s<=(1099511627776:Int)) then bif decide (bl s>=(1:Int)) then E (Cs (ID (decide (bl s<=(16:Int)))),[]) else Z3 E else Z3 E else Z3 E)=(aO [] [] 139 [.d (bX s)] []) E:=by kernel_rfl
def qR g:=Cs (IM 18 (aa eX (au.ops g)))
def qf g:=ue DD (bl (au.je g))
def qg g:=ue DD (ba (au.je g))
def qS g:=Cs (IM 1 (bL (au.deps g)))
def uv g:=Cs (ue DD (au.n g))
def nC g:=ue DD (bl (au.s g))
def oF g:=ue DD (ba (au.s g))
def Ua g k:=GT (136:I) (Cs (oF g)::Cs (nC g)::uv g::qS g::Cs (qg g)::Cs (qf g)::qR g::Zm k)
def jD g k:=[(0,we 0 (Z 0) (Ua g k))]
def O9(E:P×List (Nat×En)->Prop) g k:=E (Cs Z2,jD g k)
def Z5p(x:ak) g:=ba x==ba (au.s g)&&(gD x==bl (au.s g)&&O)
def yZ(a:aN):=ue DD (bl a)
def y5(a:aN):=ue DD (ba a)
def wQ a:=Cs (AM [y5 a,yZ a])
def rR b:=[wQ b]
def LI g:=AM [oF g,nC g]
def Ub g:=[Cs (LI g)]
theorem qdY g k x E:(∃h,gW x=gW h/\Zn/\ ∀b,b=rgX h->bif b then∃a b,Cs (AM [fQ x,fP x])::Ub g=wQ a::rR b/\Zn/\ ∀c,T9 a b c->bif Z1g c then E (ZT,jD g k) else bif Z5p x g then E (Cs (ID (decide (fO x<k))),jD g k) else O9 E g k else O9 E g k)=(aO [(124,qdX),(69,Rp)] [] 113 [.ref 0 0 0,.d (aF x)] (yY g k)) E:=by kernel_rfl
def H0:bc:=λps R E=> ∃g k x,ps=[.ref 0 0 0,.d (aF x)]/\R=yY g k/\ ∀b,b=fL g.s k x->E (lG b,yY g k)
def iF b:=Cs (ID b)
def Z5t(x:ak):=ba x==(0:Int)&&(gD x==(0:Int)&&O)&&(fO x==(0:Int)&&O)
theorem YA g k x E:(bif Z5t x then E (ZT,jD g k) else∃l h A,cp::gW x=cp::gW A/\jD g k=jD l h/\ ∀b,b=fL (au.s l) h A->E (iF b,jD l h))=(aO [(113,H0)] [] 111 [.ref 0 0 0,.d (aF x)] (yY g k)) E:=by kernel_rfl
def Rq:bc:=λps R E=> ∃g k x,ps=[.ref 0 0 0,.d (aF x)]/\R=yY g k/\ ∀b,b=DX g.s k x->E (lG b,yY g k)
def plainO(o:bq):bq:=
 if o.kind=0 then⟨o.kind,o.node,o.parent,o.name,o.dir,[],aJ,aJ,[],[]⟩
 else if o.kind=1 then⟨o.kind,o.node,o.parent,o.name,C,[],aJ,aJ,[],[]⟩
 else if o.kind=2 then⟨o.kind,o.node,aJ,[],C,o.cV,aJ,aJ,[],[]⟩
 else if o.kind=3 then⟨o.kind,o.node,aJ,[],C,[],o.after,o.elem,o.text,[]⟩
 else if o.kind=4 then⟨o.kind,o.node,aJ,[],C,[],aJ,aJ,[],o.elems⟩
 else⟨o.kind,o.node,aJ,[],C,[],aJ,aJ,[],[]⟩
def Rr:bc:=λps R E=> ∃o,ps=[.d (eX o)]/\R=[]/\ ∀p,p=plainO o->E (.d (eX p),[])
def Z5F:=[IM 3 []]
def YB:=Z5::Z5::Z5::Z5::Z5::Z5::nA::Z5F
def Uc:=IM 2 []
def Z5R:=Z5::Z5::Z5::nA::Z2::Uc::YB
def Z5Q o:=[IM 3 (aa aF (bq.elems o))]
def DZ o:=bl (bl (bq.elem o))
def D0 o:=ba (bl (bq.elem o))
def D1 o:=ba (bq.elem o)
def Jk o:=bl (bl (bq.after o))
def LJ o:=ue DD (Jk o)
def Jl o:=ba (bl (bq.after o))
def LK o:=ue DD (Jl o)
def LL o:=ue DD (ba (bq.after o))
def Fs o:=IM 2 (aa bX (bq.cV o))
def Jm o:=bl (bl (bq.parent o))
def Jn o:=ue DD (Jm o)
def Jo o:=ba (bl (bq.parent o))
def Jp o:=ue DD (Jo o)
def Jq o:=ue DD (ba (bq.parent o))
def Cf o:=ue DD (bl (bl (bq.node o)))
def Cg o:=ue DD (ba (bl (bq.node o)))
def Ch o:=ue DD (ba (bq.node o))
def D2 o:=ue DD (bq.kind o)
theorem YC o E:(bif bq.kind o==(0:Int) then E (Cs (AM (D2 o::Ch o::Cg o::Cf o::Jq o::Jp o::Jn o::FS (bq.name o)::ID (bq.dir o)::Uc::YB)),[]) else bif bq.kind o==(1:Int) then E (Cs (AM (D2 o::Ch o::Cg o::Cf o::Jq o::Jp o::Jn o::FS (bq.name o)::Z2::Uc::YB)),[]) else bif bq.kind o==(2:Int) then E (Cs (AM (D2 o::Ch o::Cg o::Cf o::Z5::Z5::Z5::nA::Z2::Fs o::YB)),[]) else bif bq.kind o==(3:Int) then E (Cs (AM (D2 o::Ch o::Cg o::Cf o::Z5::Z5::Z5::nA::Z2::Uc::LL o::LK o::LJ o::ue DD (D1 o)::ue DD (D0 o)::ue DD (DZ o)::FS (bq.text o)::Z5F)),[]) else bif bq.kind o==(4:Int) then E (Cs (AM (D2 o::Ch o::Cg o::Cf o::Z5::Z5::Z5::nA::Z2::Uc::Z5::Z5::Z5::Z5::Z5::Z5::nA::Z5Q o)),[]) else E (Cs (AM (D2 o::Ch o::Cg o::Cf o::Z5R)),[]))=(aO [] [] 152 [.d (eX o)] []) E:=by kernel_rfl
def Z5V p:=(↑(J (aa aF (bq.elems p))):Int)
def Pa p:=(↑(J (aa bX (bq.cV p))):Int)
def Jr h:=AM (D2 h::Ch h::Cg h::Cf h::Jq h::Jp h::Jn h::FS (bq.name h)::ID (bq.dir h)::Fs h::LL h::LK h::LJ h::ue DD (D1 h)::ue DD (D0 h)::ue DD (DZ h)::FS (bq.text h)::Z5Q h)
def Z5T h:=[Cs (Jr h)]
theorem qiY o E:(∃h,Z5T o=Z5T h/\Zn/\ ∀p,p=plainO h->bif ba (bq.parent p)==ba (bq.parent o)&&(Jo p==Jo o&&O)&&(Jm p==Jm o&&O) then bif bq.name p==bq.name o then bif bq.dir p==bq.dir o then bif ba (bq.after p)==ba (bq.after o)&&(Jl p==Jl o&&O)&&(Jk p==Jk o&&O) then bif D1 p==D1 o&&(D0 p==D0 o&&O)&&(DZ p==DZ o&&O) then bif bq.text p==bq.text o then bif Pa p==Pa o then E (Cs (ID (Z5V p==Z5V o)),[]) else Z3 E else Z3 E else Z3 E else Z3 E else Z3 E else Z3 E else Z3 E)=(aO [(152,Rr)] [] 109 [.d (eX o)] []) E:=by kernel_rfl
def YD:bc:=λps R E=> ∃o,ps=[.d (eX o)]/\R=[]/\ ∀b,b=yX o->E (lG b,[])
abbrev dtH(g:au)(k:Int)(l:List aN)(i:Int):S:=⟨45,[(0,.ref 0 0 0),(1,mR l),(7,mR l),(8,iD (J (l.map bX):Int)),(9,iD i)],yY g k⟩
def H2 l:=Cs (IM 2 (aa bX l))
def Pb l:=(1,H2 l)
def Ab l:=J (aa bX l)
def Z64 i (E:PX×S->Prop) l g k:=ob (Zv i) (E (xz,AD 45 (fq::Pb l::(7,H2 l)::(8,Cs (ue DD (↑(Ab l):Int)))::ZP i) (jD g k)))
def LM l i:=[ue DD (AC (vc (BC (aa bX l) (Zs i)) 0)),ue DD (AC (vc (BC (aa bX l) (Zs i)) 1))]
def Z66 l i:=[Cs (AM (LM l i))]
def Z67 l i:=Cs (AM [ue DD (AC (vc (BC (aa bX l) (Za i)) 0)),ue DD (AC (vc (BC (aa bX l) (Za i)) 1))])::Z66 l i
def Z63 i l:=decide ((0:Int)<=i-(1:Int)/\i-(1:Int)<(↑(Ab l):Int))
def Z62(E:PX×S->Prop) l g k:=E (Q2,AD 45 (fq::Pb l::Zu) (jD g k))
noncomputable def H3 l i:=bE PR (27:I) (BC (aa bX l) (Zs i))
def Z5Y i l:=decide ((0:Int)<=i/\i<(↑(Ab l):Int))
def Z5X i l:=decide (i<(↑(Ab l):Int))
theorem Rs g k l i E:(bif Z5X i l then ob (Z5Y i l) (ob (H3 l i) (∃s,Z66 l i=rR s/\Zn/\ ∀b,b=LB s->bif !b then Z62 E l g k else∃a b,Cs (AM (LM l i))::Ub g=wQ a::rR b/\Zn/\ ∀c,T9 a b c->bif ZF c then Z62 E l g k else bif ZF i then ob (Z9 i) (ob (Z63 i l) (ob (bE PR (27:I) (BC (aa bX l) (Za i))) (∃a b,Z67 l i=wQ a::rR b/\Zn/\ ∀c,T9 a b c->bif Z1 c then Z62 E l g k else Z64 i E l g k))) else Z64 i E l g k)) else E (CE 0,AD 45 [fq,Pb l] (jD g k)))=(aG [(68,O8),(69,Rp)] [] 114 2 (dtH g k l i)) E:=by kernel_rfl
abbrev elH(g:au)(k:Int)(l:List ak)(i:Int):S:=⟨41,[(0,.ref 0 0 0),(1,cF l),(7,cF l),(8,iD (J (l.map aF):Int)),(9,iD i)],yY g k⟩
def Z68 i (E:PX×S->Prop) l A h:=ob (Zv i) (E (xz,AD 41 (fq::nt l::(7,gC l)::(8,Cs (ue DD (vK l)))::ZP i) (jD A h)))
def Z69 l i:=[Cs (AM [ue DD (AC (vc (BC (eM l) (Za i)) 0)),ue DD (AC (vc (BC (eM l) (Za i)) 1)),ue DD (AC (vc (BC (eM l) (Za i)) 2))]),Cs (vL l i)]
theorem LO g k l i E:(bif Z4o i l then ob (Lo i l) (ob (yT l i) (∃A h x,[cp,Cs (vL l i)]=cp::gW x/\jD g k=jD A h/\ ∀b,b=fL (au.s A) h x->bif !b then E (Q2,AD 41 (fq::nt l::Zu) (jD A h)) else bif ZF i then ob (Z9 i) (ob (decide ((0:Int)<=i-(1:Int)/\i-(1:Int)<vK l)) (ob (bE PR (49:I) (BC (eM l) (Za i))) (∃x y,Z69 l i=Cs (fe x)::gW y/\Zn/\ ∀c,Ro x y c->bif Z1 c then E (Q2,AD 41 (fq::nt l::Zu) (jD A h)) else Z68 i E l A h))) else Z68 i E l A h)) else E (CE 0,AD 41 [fq,nt l] (jD g k)))=(aG [(113,H0),(78,Aa)] [] 116 2 (elH g k l i)) E:=by kernel_rfl
theorem Ru(a b:aN):T9 a b (vG a.1 a.2 b.1 b.2) where
 lt:=by
  simp only[ug,vG,TE,sL,zam]
  (repeat' split)<;>omega
 gt:=by
  simp only[ug,vG,TE,sL,zam]
  (repeat' split)<;>omega
theorem LP(a b:ak):Ro a b (lj a.1 a.2.1 a.2.2 b.1 b.2.1 b.2.2) where
 lt:=vN a b
 gt:=by
  simp only[kr,lj,vG,TE,sL,zam]
  (repeat' split)<;>omega
theorem ph s:bE PR 27 (bX s)=O:=by rfl
theorem D3 o:bE PR 79 (eX o)=O:=by rfl
theorem mS g:bE PR 31 (dp g)=O:=by rfl
theorem eq2(a b:aN):(a.1==b.1&&(a.2==b.2&&O))=(a==b):=by grind
theorem eq3(a b:ak):(a.1==b.1&&(a.2.1==b.2.1&&O)&&(a.2.2==b.2.2&&O))=(a==b):=by grind
theorem YE o:yX o=((plainO o).parent==o.parent&&((plainO o).name==o.name&&((plainO o).dir==o.dir&&((plainO o).after==o.after&&((plainO o).elem==o.elem&&((plainO o).text==o.text&&(J (plainO o).cV==J o.cV&&J (plainO o).elems==J o.elems))))))):=by
 have A: ∀x:ak,(aJ==x)=(x==aJ):=λx=>by grind
 have l: ∀s:List UInt8,(([]:List UInt8)==s)=(s==[]):=λs=>by simp
 have h: ∀n:Nat,((0:Nat)==n)=(n==0):=λn=>by grind
 unfold yX Yz plainO;grind
theorem YF{p:Prop}[Decidable p] {A B:Prop}(l:p)(h:A):cond (decide p) A B:=nM (za6 l) h
section
variable{X:XF}
theorem Pc:FD X 69 Rp:=qgb.weaken λps R E h=>by obtain⟨a,b,rfl,rfl,l⟩:=h;exact⟨_,_,_,_,rfl,rfl,l _ (Ru a b)⟩
theorem YG:FD X 78 Aa:=qc4.weaken λps R E h=>by obtain⟨a,b,rfl,rfl,l⟩:=h;exact⟨_,_,_,_,_,_,rfl,rfl,l _ (LP a b)⟩
theorem Ud:FD X 98 Aa:=o8.weaken λps R E h=>by obtain⟨a,b,rfl,rfl,l⟩:=h;exact⟨_,_,_,_,_,_,rfl,rfl,l _ (LP a b)⟩
theorem Ci:FD X 53 Fq:=Le.weaken λps R E h=>by obtain⟨a,b,rfl,rfl,l⟩:=h;exact⟨_,_,_,_,rfl,rfl,l _ rfl⟩
theorem qmR:FD X 124 qdX:=xy.weaken λps R E h=>by obtain⟨x,rfl,rfl,l⟩:=h;exact⟨_,_,_,rfl,rfl,l _ rfl⟩
theorem qiZ:FD X 192 qdX:=uf.weaken λps R E h=>by obtain⟨x,rfl,rfl,l⟩:=h;exact⟨_,_,_,rfl,rfl,l _ rfl⟩
theorem YH:FD X 68 O8:=IN .nil .nil (by
 intro ps R E l;obtain⟨s,rfl,rfl,h⟩:=l
 (rw[<-qmQ];delta Z2 Z3)
 refine bj (λF=>bj (λB=>bj (λA=>h _ ?_) λA=>h _ ?_) λB=>h _ ?_) λF=>h _ ?_
 all_goals (grind [BM]))
theorem YI:FD X 139 O8:=IN .nil .nil (by
 intro ps R E l;obtain⟨s,rfl,rfl,h⟩:=l
 (rw[<-qiX];delta Z2 Z3)
 refine bj (λF=>bj (λB=>bj (λA=>h _ ?_) λA=>h _ ?_) λB=>h _ ?_) λF=>h _ ?_
 all_goals (grind [BM]))
theorem H4:FD X 113 H0:=IN (.cons qmR (.cons Pc .nil)) .nil (by
 intro ps R E L;obtain⟨g,k,x,rfl,rfl,h⟩:=L
 (rw[<-qdY];delta Zj Zl Zm qR qf qg qS uv nC oF Ua jD Z2 O9 fO gD Z5p ZT Z1g yZ y5 wQ rR LI Ub fP fQ Zn gA fe gW)
 refine⟨x,rfl,rfl,λb F=>az (λA=>⟨Jj x,g.s,rfl,rfl,λc B=>bj (λl=>h _ ?_) λl=>az (λH=>h _ ?_) λH=>h _ ?_⟩) λA=>h _ ?_⟩
 ·rw[fL,<-F,A,B.lt.1 l];rfl
 ·have e:Jj x=g.s:=by grind
  have G:pq (Jj x) g.s=C:=by rw[<-zbv,<-B.lt];exact l
  rw[fL,<-F,A,G,e];simp
 ·have e:(Jj x==g.s)=C:=by rw[<-eq2 (Jj x) g.s];exact H
  have G:pq (Jj x) g.s=C:=by rw[<-zbv,<-B.lt];exact l
  rw[fL,<-F,A,G,e];rfl
 grind [fL])
theorem YJ:FD X 111 Rq:=IN (.cons H4 .nil) .nil (by
 intro ps R E A;obtain⟨g,k,x,rfl,rfl,l⟩:=A
 (rw[<-YA];delta iF fO gA gD fP fQ fe gW cp Zj Zl Zm qR qf qg qS uv nC oF Ua jD ZT Z5t)
 refine az (λh=>l _ ?_) λh=>⟨g,k,x,rfl,rfl,λb B=>l _ ?_⟩
 ·rw[DX,<-eq3 x aJ,h];rfl
 rw[DX,<-eq3 x aJ,h,B];rfl)
theorem YK:FD X 152 Rr:=IN .nil .nil (by
 intro ps R E H;obtain⟨o,rfl,rfl,l⟩:=H
 (rw[<-YC];delta Z5F nA Z5 YB Uc Z2 Z5R Z5Q DZ D0 D1 Jk LJ Jl LK LL Fs Jm Jn Jo Jp Jq Cf Cg Ch D2)
 refine ju (λh=> ?_) λh=>ju (λA=> ?_) λA=>ju (λB=> ?_) λB=>ju (λF=> ?_) λF=>ju (λG=> ?_) λG=> ?_
 ·exact l _ (by rw[plainO,zau h])
 ·exact l _ (by rw[plainO,zat h,zau A])
 ·exact l _ (by rw[plainO,zat h,zat A,zau B])
 ·exact l _ (by rw[plainO,zat h,zat A,zat B,zau F])
 ·exact l _ (by rw[plainO,zat h,zat A,zat B,zat F,zau G])
 exact l _ (by rw[plainO,zat h,zat A,zat B,zat F,zat G]))
theorem qdZ:FD X 109 YD:=IN (.cons YK .nil) .nil (by
 intro ps R E A;obtain⟨o,rfl,rfl,B⟩:=A
 (rw[<-qiY];delta Z2 Z3 Z5V Pa DZ D0 D1 Jk Jl Jm Jo Zn Z5Q LJ LK LL Fs Jn Jp Jq Cf Cg Ch D2 Jr Z5T)
 refine⟨o,rfl,rfl,λp l=> ?_⟩;have h:=YE o;grind)
def qgs:S->K (PX×S):=λh E=> ∃g k l,h=dtH g k l 0/\J l<=9223372036854775807/\(uu (J l) (Cc g.s l)=C->E (.ret,⟨45,[(0,.ref 0 0 0),(1,mR l),(4,lG C)],yY g k⟩))/\(uu (J l) (Cc g.s l)=O->E (.exit 0,⟨45,[(0,.ref 0 0 0),(1,mR l)],yY g k⟩))
theorem sk{α:Type}{l:List α}{i}(h:i<J l) d:l.getD i d=l[i]:=by grind
theorem YL:LD X 114 2 (ah (aV 114 2) qgs):=LD.find (.cons YH (.cons Pc .nil)) .nil
 (A:=au×Int×List aN) (λa k=>dtH a.1 a.2.1 a.2.2 k) (λa=>a.2.2) (λa j _=> !Cc a.1.s a.2.2 j) (λa=>J a.2.2<=9223372036854775807)
 (λa _=>(.ret,⟨45,[(0,.ref 0 0 0),(1,mR a.2.2),(4,lG C)],yY a.1 a.2.1⟩)) (λa=>(.exit 0,⟨45,[(0,.ref 0 0 0),(1,mR a.2.2)],yY a.1 a.2.1⟩)) (λ_ _ h=>by cases h) (λ_ h=>by cases h)
 (by
  rintro⟨g,k,l⟩ i E B hC h0 dE H hn;dsimp only at*
  (rw[<-Rs];delta Zj Zl Zm qR qf qg qS uv nC oF Ua jD H2 Pb cp fq Zz ZA ZP Ab Z8 Z7 Zv Z64 Z1 Zs LM Z66 Za Z67 Z63 Z9 ZF yZ y5 wQ LI Ub Z2 Zu Z62 Zn rR H3 Z5Y Z5X)
  have e1:BC (l.map bX) i.toNat=bX l[i.toNat]:=aA _ _ _ B;have G:=sk B ((0,0):aN);rw[e1];simp only[dtH,zaa] at hn⊢;refine YF dE (bu ⟨h0,dE⟩ (ao (ph _) ⟨l[i.toNat],rfl,rfl,λb hb=>az (λQ=> ?_) λQ=>⟨l[i.toNat],g.s,rfl,rfl,λc L=>bj (λF=> ?_) λF=>bj (λh3=> ?_) λh3=> ?_⟩⟩))
  ·grind [Cc]
  ·refine H ?_;rw[Cc,G,L.gt.1 F];simp
  ·have e2:BC (l.map bX) (i-1).toNat=bX (l[(i-1).toNat]'(by omega)):=aA _ _ _ (by omega);have d2:=sk (show(i-1).toNat<J l by omega) ((0,0):aN);rw[e2];have U:pq g.s l[i.toNat]=C:=by rw[<-zbv,<-L.gt];exact F
   refine bu (by omega) (bu ⟨by omega,by omega⟩ (ao (ph _) ⟨l[(i-1).toNat],l[i.toNat],rfl,rfl,λc' V=>bj (λh4=>H ?_) λh4=>bu (by omega) (hn ?_)⟩))
   ·have R:pq l[(i-1).toNat] l[i.toNat]=C:=by rw[<-zbv,<-V.lt];omega
    rw[Cc,G,show i.toNat-1=(i-1).toNat by omega,d2,R,show(i.toNat==0)=C by simp;omega];simp
   have R:pq l[(i-1).toNat] l[i.toNat]=O:=by rw[<-V.lt];omega
   rw[Cc,G,show i.toNat-1=(i-1).toNat by omega,d2,U,R,<-hb,show b=O by grind];simp
  have U:pq g.s l[i.toNat]=C:=by rw[<-zbv,<-L.gt];exact F
  refine bu (by omega) (hn ?_);rw[Cc,G,U,<-hb,show b=O by grind,show(i.toNat==0)=O by simp;omega];simp)
 (by
  rintro⟨g,k,l⟩ i E hC B hp
  (rw[<-Rs];delta Zj Zl Zm qR qf qg qS uv nC oF Ua jD H2 Pb cp fq Zz ZA ZP Ab Z8 Z7 Zv Z64 Z1 Zs LM Z66 Za Z67 Z63 Z9 ZF yZ y5 wQ LI Ub Z2 Zu Z62 Zn rR H3 Z5Y Z5X)
  grind)
 (by rintro s E ⟨g,k,l,rfl,hl,Q,F⟩;refine⟨(g,k,l),rfl,hl,λi B h0 H _=>Q (Yx (i:=i.toNat) B (by grind)),λh=>F (Yy λi B=>by grind)⟩)
def YM:S->K (PX×S):=λh E=> ∃g k l,h=elH g k l 0/\J l<=9223372036854775807/\(uu (J l) (elG g.s k l)=C->E (.ret,⟨41,[(0,.ref 0 0 0),(1,cF l),(4,lG C)],yY g k⟩))/\(uu (J l) (elG g.s k l)=O->E (.exit 0,⟨41,[(0,.ref 0 0 0),(1,cF l)],yY g k⟩))
theorem Ue:LD X 116 2 (ah (aV 116 2) YM):=LD.find (.cons H4 (.cons YG .nil)) .nil
 (A:=au×Int×List ak) (λa k=>elH a.1 a.2.1 a.2.2 k) (λa=>a.2.2) (λa j _=> !elG a.1.s a.2.1 a.2.2 j) (λa=>J a.2.2<=9223372036854775807)
 (λa _=>(.ret,⟨41,[(0,.ref 0 0 0),(1,cF a.2.2),(4,lG C)],yY a.1 a.2.1⟩)) (λa=>(.exit 0,⟨41,[(0,.ref 0 0 0),(1,cF a.2.2)],yY a.1 a.2.1⟩)) (λ_ _ h=>by cases h) (λ_ h=>by cases h)
 (by
  rintro⟨g,k,l⟩ i E B hC U dE Q hn;dsimp only at*
  (rw[<-LO];delta Zj Zl Zm qR qf qg qS uv nC oF Ua jD Zz ZA ZP eM oH vK gC nt cp fq Z8 Z7 Zv Z68 Z1 Zn fO gA gD fP fQ fe Zs I9 Ja HR vL Za Z69 Z9 ZF Z2 Zu gW yT Lo Z4o)
  have e1:BC (l.map aF) i.toNat=aF l[i.toNat]:=aA _ _ _ B;have H:=sk B aJ;rw[e1];simp only[elH,zaa] at hn⊢;refine YF dE (bu ⟨U,dE⟩ (ao (jG _) ⟨g,k,l[i.toNat],rfl,rfl,λb R=>az (λF=> ?_) λF=>bj (λh3=> ?_) λh3=> ?_⟩))
  ·grind [elG]
  ·have e2:BC (l.map aF) (i-1).toNat=aF (l[(i-1).toNat]'(by omega)):=aA _ _ _ (by omega);have V:=sk (show(i-1).toNat<J l by omega) aJ;rw[e2];refine bu (by omega) (bu ⟨by omega,by omega⟩ (ao (jG _) ⟨l[(i-1).toNat],l[i.toNat],rfl,rfl,λc' L=>bj (λh4=>Q ?_) λh4=>bu (by omega) (hn ?_)⟩))
   ·have G:kr l[(i-1).toNat] l[i.toNat]=C:=by rw[<-zbv,<-L.lt];omega
    rw[elG,H,show i.toNat-1=(i-1).toNat by omega,V,G,show(i.toNat==0)=C by simp;omega];simp
   have G:kr l[(i-1).toNat] l[i.toNat]=O:=by rw[<-L.lt];omega
   rw[elG,H,show i.toNat-1=(i-1).toNat by omega,V,G,<-R,show b=O by grind];simp
  refine bu (by omega) (hn ?_);rw[elG,H,<-R,show b=O by grind,show(i.toNat==0)=O by simp;omega];simp)
 (by
  rintro⟨g,k,l⟩ i E hC B hp
  (rw[<-LO];delta Zj Zl Zm qR qf qg qS uv nC oF Ua jD Zz ZA ZP eM oH vK gC nt cp fq Z8 Z7 Zv Z68 Z1 Zn fO gA gD fP fQ fe Zs I9 Ja HR vL Za Z69 Z9 ZF Z2 Zu gW yT Lo Z4o)
  grind)
 (by rintro s E ⟨g,k,l,rfl,hl,F,h2⟩;refine⟨(g,k,l),rfl,hl,λi B U Q _=>F (Yx (i:=i.toNat) B (by grind)),λh=>h2 (Yy λi B=>by grind)⟩)
end
theorem ar{p:Prop}{i}{A:Prop}(l:p)(h:A):cond (@decide p i) A False:=by rw[za6 l];exact h
theorem b8{p:Prop}{i}{A B:Prop}(l:p->A)(h: ¬p->B):cond (@decide p i) A B:=by grind
theorem dv{p:Prop}{i}{A B:Prop}(l:p)(h:A):cond (@decide p i) A B:=by rw[za6 l];exact h
theorem Cj{p:Prop}{i}{A B:Prop}(l: ¬p)(h:B):cond (@decide p i) A B:=by rw[za7 l];exact h
theorem zp{a b:Int}{A B:Prop}(l:a=b->A)(h:a≠b->B):cond (a==b) A B:=by grind
structure bQ where
 f:D->Option D
 d:D->Option D
 c:Int
 n:Int
 gs:List D
 os:List D
 A:List D
 P:List D
 H:List D
 L:List D
 bb: ∀x:ak,∃b,aK (d (aF x)) (.bool C)= .bool b
abbrev vdR(b:Nat)(V:bQ):List (Nat×En):=[(b,⟨0,Z b,.box 61 [.ref (b+1) 0 0]⟩),(b+1,⟨0,Z (b+1),.box 74 [.sl (b+2) 0 (J V.gs),.sl (b+3) 0 (J V.os),.mp (b+4) 0,.sl (b+5) 0 (J V.A),.sl (b+6) 0 (J V.P),.mp (b+7) 0,.sl (b+8) 0 (J V.H),.sl (b+9) 0 (J V.L)]⟩),(b+2,⟨0,Z (b+2),.arr 31 C V.gs⟩),(b+3,⟨0,Z (b+3),.arr 27 C V.os⟩),(b+4,⟨0,Z (b+4),.map 27 V.f V.c C⟩),(b+5,⟨0,Z (b+5),.arr 49 O V.A⟩),(b+6,⟨0,Z (b+6),.arr 108 O V.P⟩),(b+7,⟨0,Z (b+7),.map 49 V.d V.n C⟩),(b+8,⟨0,Z (b+8),.arr 121 C V.H⟩),(b+9,⟨0,Z (b+9),.arr 121 C V.L⟩)]
def iW(V:bQ)(x:Pl):= !(V.d (aF x.1)).isSome
def qi0:bc:=λps R E=> ∃x V,ps=[.d (bI x),.ref 0 0 0]/\R=vdR 0 V/\E (.d (.bool (iW V x)),vdR 0 V)
def Uf V:=AS (121:I) C (bQ.L V)
def Ug V:=AS (121:I) C (bQ.H V)
def Ft V:=HH 49 (bQ.d V) (bQ.n V) C
def Fu V:=AS (108:I) O (bQ.P V)
def Fv V:=AS (49:I) O (bQ.A V)
def Fw V:=HH 27 (bQ.f V) (bQ.c V) C
def Rv V:=AS (27:I) C (bQ.os V)
def Fx V:=AS (31:I) C (bQ.gs V)
def Ac V:=J (bQ.gs V)
def Z6n V:=[(0,we 0 (Z 0) (GT (61:I) [jB])),(1,we 0 (Z 1) (GT (74:I) [If 2 0 (Ac V),If 3 0 (J (bQ.os V)),P.mp 4 0,If 5 0 (J (bQ.A V)),If 6 0 (J (bQ.P V)),P.mp 7 0,If 8 0 (J (bQ.H V)),If 9 0 (J (bQ.L V))])),(2,we 0 (Z 2) (Fx V)),(3,we 0 (Z 3) (Rv V)),(4,we 0 (Z 4) (Fw V)),(5,we 0 (Z 5) (Fv V)),(6,we 0 (Z 6) (Fu V)),(7,we 0 (Z 7) (Ft V)),(8,we 0 (Z 8) (Ug V)),(9,we 0 (Z 9) (Uf V))]
def Uh(x:Pl):=ue DD (bl (bl (ba x)))
def Ui(x:Pl):=ue DD (ba (bl (ba x)))
def Uj(x:Pl):=ue DD (ba (ba x))
def Z6d x:=AM [Uj x,Ui x,Uh x]
theorem qmS x V E:(ob (bE PR (4:I) (aK (bQ.d V (Z6d x)) Z2)) (E (Cs (ID !ir (bQ.d V (Z6d x))),Z6n V)))=(aO [] [] 48 [.d (bI x),.ref 0 0 0] (vdR 0 V)) E:=by kernel_rfl
abbrev YN(m:List Pl) V:=(0,⟨0,Z 0,.arr 108 C (m.map bI)⟩)::vdR 1 V
abbrev H5:P:= .fn 48 [.ref 1 0 0]
abbrev ixP(m:List Pl)(V:bQ)(n k:Int):S:=⟨19,[(0,.sl 0 0 (J m)),(1,H5),(7,iD n),(8,iD k)],YN m V⟩
abbrev oxP(m:List Pl)(V:bQ)(i:Int):PX×S:=(.ret,⟨19,[(0,.sl 0 0 (J m)),(1,H5),(4,iD i)],YN m V⟩)
abbrev qmT(m:List Pl)(V:bQ):PX×S:=(.exit 0,⟨19,[(0,.sl 0 0 (J m)),(1,H5)],YN m V⟩)
def vY k:=[(8,ZA k)]
def sq n:=(7,Zl n)
def qh:=RK 2 0 0
def Z6w h:=[(1,we 0 (Z 1) (GT (61:I) [qh])),(2,we 0 (Z 2) (GT (74:I) [If 3 0 (Ac h),If 4 0 (J (bQ.os h)),P.mp 5 0,If 6 0 (J (bQ.A h)),If 7 0 (J (bQ.P h)),P.mp 8 0,If 9 0 (J (bQ.H h)),If 10 0 (J (bQ.L h))])),(3,we 0 (Z 3) (Fx h)),(4,we 0 (Z 4) (Rv h)),(5,we 0 (Z 5) (Fw h)),(6,we 0 (Z 6) (Fv h)),(7,we 0 (Z 7) (Fu h)),(8,we 0 (Z 8) (Ft h)),(9,we 0 (Z 9) (Ug h)),(10,we 0 (Z 10) (Uf h))]
def YO m:=(0,we 0 (Z 0) (AS (108:I) C (fI m)))
def Dh m h:=YO m::Z6w h
def Rw:=(1,P.fn (48:FuncId) [jB])
def Nf(x:Pl):=ba (bl (bl x))
def Uk(x:Pl):=bl (bl (ba (bl x)))
def Ul(x:Pl):=ba (bl (ba (bl x)))
def Um(x:Pl):=ba (ba (bl x))
def Vm x:=Cs (AM [Uj x,Ui x,Uh x,ue DD (Um x),ue DD (Ul x),ue DD (Uk x),FS (Nf x),ID (bl (bl (bl x)))])
def Pd m k:=[HP m k,Ln m k,Lm m k,ue DD (AC (vc (ln m k) 3)),ue DD (AC (vc (ln m k) 4)),ue DD (AC (vc (ln m k) 5)),FS (Q1 (vc (ln m k) 6)),ID (Q3 (vc (ln m k) 7))]
theorem qgt m V n k E:(bif Zh k n then ob (decide ((0:Int)<=k/\k<qa m)) (ob (Jf k m) (ob (qG m k) (∃x h,Cs (AM (Pd m k))::oI=Vm x::oI/\Z6n V=Z6n h/\bif iW h x then E (Q2,AD 19 (Jg m::Rw::HU k) (Dh m h)) else ob (Zv k) (E (xz,AD 19 (Jg m::Rw::sq n::vY k) (Dh m h)))))) else E (CE 0,AD 19 [Jg m,Rw] (Dh m V)))=(aG [(48,qi0)] [] 79 2 (ixP m V n k)) E:=by kernel_rfl
def qmU:S->K (PX×S):=λs E=> ∃m V,s=ixP m V (J m:Int) 0/\J m<=1000000/\(∀i l,0<=i->iW V m[i.toNat]=O->(∀j (h:j<i.toNat),iW V (m[j]'(by omega))=C)->E (oxP m V i))/\((∀j (h:j<J m),iW V m[j]=C)->E (qmT m V))
def Z6D h l:= ∀(j:Nat) (A:j<J h),iW l h[j]=C
def Fy:=[(8,Cs Z5)]
def Z6C h l:=AD 19 (Jg h::Rw::(7,Cs (ue DD (qa h)))::Fy) (Dh h l)
theorem qi1 m V E:(∃h l,Z6C m V=Z6C h l/\iB h/\(∀i B,(0:Int)<=i->iW l h[dd i]=O->(∀(j:Nat) (A:j<dd i),iW l h[j]=C)->E (Zl i,Dh h l))/\(Z6D h l->E (Zd,Dh h l)))=(aO [] [(2,ah (aV 79 2) qmU)] 79 [.sl 0 0 (J m),H5] (YN m V)) E:=by kernel_rfl
def qmV:bc:=λps R E=> ∃m V,ps=[.sl 0 0 (J m),H5]/\R=YN m V/\J m<=1000000/\(∀i l,0<=i->iW V m[i.toNat]=O->(∀j (h:j<i.toNat),iW V (m[j]'(by omega))=C)->E (iD i,YN m V))/\((∀j (h:j<J m),iW V m[j]=C)->E (iD (-1),YN m V))
abbrev dpH(q:List Pl)(n:Nat)(V:bQ)(i k:Int):S:=⟨42,[(0,.sl 0 0 n),(1,H5),(5,iD i),(6,iD k)],YN q V⟩
def zq i:=(5,Zl i)
theorem qrJ q n V i k E:(bif Df k n then ob (jA k n) (ob (Jf k q) (ob (qG q k) (∃x h,Cs (AM (Pd q k))::oI=Vm x::oI/\Z6n V=Z6n h/\bif !iW h x then ob (jA i n) (ob (Jf i q) (ob (qG q i) (ob (Zv i) (ob (Zv k) (E (xz,AD 42 (qP n::Rw::(5,ZA i)::ZL k) ((0,we 0 (Z 0) (AS (108:I) C (tz (fI q) (Zs i) (D.aY (AM (Pd q i)) (Pd q k)))))::Z6w h))))))) else ob (Zv k) (E (xz,AD 42 (qP n::Rw::zq i::ZL k) (Dh q h)))))) else E (CE 0,AD 42 [qP n,Rw,zq i] (Dh q V)))=(aG [(48,qi0)] [] 47 5 (dpH q n V i k)) E:=by kernel_rfl
def lr(V:bQ)(x:Pl):=(V.d (aF x.1)).isSome
abbrev dpE(q:List Pl)(n:Nat)(V:bQ)(i:Int):PX×S:=(.exit 0,⟨42,[(0,.sl 0 0 n),(1,H5),(5,iD i)],YN q V⟩)
structure qi2(m:List Pl)(V:bQ)(i k:Int):Prop where
 len:J m<=1000000
 i0:0<=i
 ik:k=i+1
 kl:k<=J m
 eq:(m.take k.toNat).filter (lr V)=m.take i.toNat
def gDp:S->K (PX×S):=λs E=> ∃m V i k,s=dpH m (J m) V i k/\qi2 m V i k/\ ∀(o:List Pl) (h:Int),o=m.filter (lr V)->h=J o->J o<=J m->E (dpE (o++m.drop (J o)) (J m) V h)
def Z6H o h:=aa bI (o++List.drop (fp o) h)
def Fz k:=[ZQ k]
def Z6F h:=[qQ h,P.fn (48:FuncId) [jB]]
theorem qmW m V E:(∃A B,Z6F m=Z6F A/\Dh m V=Dh A B/\iB A/\(∀i H,(0:Int)<=i->iW B A[dd i]=O->(∀(j:Nat) (G:j<dd i),iW B A[j]=C)->bif i==(-1:Int) then E (qQ m,Dh A B) else ob (Zv i) (∃h V F k,AD 42 (Jg m::Rw::zq i::ZL i) (Dh A B)=AD 42 (Jg h::Rw::zq F::Fz k) (Dh h V)/\qi2 h V F k/\ ∀o l,o=List.filter (lr V) h->l=qa o->fp o<=fp h->ob (decide ((0:Int)<=l/\l<=qa h)) (ob (decide (Zs l+(fp h-Zs l)<=J (Z6H o h))) (ob (decide ((0:Int)<=l/\l<=qa h)) (E (If 0 0 (Zs l),(0,we 0 (Z 0) (AS (108:I) C (ab (Zs l) (Z6H o h)++ee (fp h-Zs l) uL++List.drop (Zs l+(fp h-Zs l)) (Z6H o h))))::Z6w V))))))/\(Z6D A B->E (qQ m,Dh A B)))=(aO [(79,qmV)] [(5,ah (aV 47 5) gDp)] 47 [.sl 0 0 (J m),H5] (YN m V)) E:=by kernel_rfl
def hDp:bc:=λps R E=> ∃m V,ps=[.sl 0 0 (J m),H5]/\R=YN m V/\J m<=1000000/\ ∀o tl,o=m.filter (lr V)->E (.sl 0 0 (J o),(0,⟨0,Z 0,.arr 108 C (o.map bI++tl)⟩)::vdR 1 V)
theorem vZ{m:List Pl}{i}(h:i<J m) t:(m.take (i+1)).filter t=(m.take i).filter t++(if t m[i]=O then [m[i]] else []):=by rw[zah h,zcf];grind
theorem pj V x:lr V x= !iW V x:=by unfold lr iW;rw[Bool.not_not]
theorem Pe{m o:List Pl}(h:J o<=J m):J (o++m.drop (J o))=J m:=by simp;omega
theorem qi3{m o k}(hk:k<J m)(h:J o<=k):(o++m.drop (J o))[k]'(by rw[Pe (by omega)];exact hk)=m[k]:=by grind
theorem qi4{m o:List Pl}{x}(h:J o<J m):(o++m.drop (J o)).set (J o) x=(o++[x])++m.drop (J (o++[x])):=by grind [List.drop_eq_getElem_cons]
theorem YP{m o k}(hk:k<J m)(h:J o<=k):BC ((o++m.drop (J o)).map bI) k=bI m[k]:=by rw[aA _ _ _ (by rw[Pe (by omega)];exact hk),qi3 hk h]
theorem qd0 b:bE PR 4 (.bool b)=O:=by rfl
section
variable{X:XF}
theorem qgu:FD X 48 qi0:=IN .nil .nil (by
 intro ps R E A;obtain⟨x,V,rfl,rfl,l⟩:=A
 (rw[<-qmS];delta Uf Ug Ft Fu Fv Fw Rv Fx Ac jB Z6n Z2 Uh Ui Uj Z6d)
 obtain⟨b,h⟩:=V.bb x.1;refine ao ?_ l;have h:aK (V.d (AM [ue DD x.1.1,ue DD x.1.2.1,ue DD x.1.2.2])) (ID C)= .bool b:=h;rw[h];rfl)
theorem qd1:LD X 79 2 (ah (aV 79 2) qmU):=
 LD.find (.cons qgu .nil) .nil
  (A:=List Pl×bQ) (λa k=>ixP a.1 a.2 (J a.1:Int) k) (·.1) (λa _ x=>iW a.2 x) (λa=>J a.1<=1000000) (λa i=>oxP a.1 a.2 i) (λa=>qmT a.1 a.2) (λ_ _ h=>by cases h) (λ_ h=>by cases h)
  (by
   rintro⟨m,V⟩ k E eb l h0 hk ht hf
   (rw[<-qgt];delta Zz ZA vY Zj Zl sq Z8 Z7 Zv Uf Ug Ft Fu Fv Fw Rv Fx Ac qh Z6w fI YO Dh qO HU jB Rw fp qQ Jg Z6n Nf Uk Ul Um Uh Ui Uj Vm cp oI Zs ln Lm Ln HP Pd qG sf Jf qa Zh)
   have e1:BC (m.map bI) k.toNat=bI m[k.toNat]:=aA _ _ _ eb;rw[e1];simp only[zaa];refine dv hk (ar ⟨h0,hk⟩ (ar eb (ao (fJ _) ⟨m[k.toNat],V,rfl,rfl,az (λh=>ht h) λh=>ar (by omega) (hf h)⟩))))
  (by
   rintro⟨m,V⟩ k E l hk hp
   (rw[<-qgt];delta Zz ZA vY Zj Zl sq Z8 Z7 Zv Uf Ug Ft Fu Fv Fw Rv Fx Ac qh Z6w fI YO Dh qO HU jB Rw fp qQ Jg Z6n Nf Uk Ul Um Uh Ui Uj Vm cp oI Zs ln Lm Ln HP Pd qG sf Jf qa Zh)
   grind)
  (by rintro s E ⟨m,V,rfl,l,F,B⟩;exact⟨(m,V),rfl,l,F,B⟩)
theorem qmX:FD X 79 qmV:=IN .nil (.cons qd1 .nil) (by
 intro ps R E h;obtain⟨m,V,rfl,rfl,l,B,A⟩:=h
 (rw[<-qi1];delta Zd Z6D Uf Ug Ft Fu Fv Fw Rv Fx Ac qh Z6w fI YO Dh Zj Zl fp iB Z5 Fy qa jB Rw qQ Jg Z6C)
 grind)
theorem qi5:LD X 47 5 (ah (aV 47 5) gDp):=
 LD.par (.cons qgu .nil) .nil
  (A:=List Pl×bQ) (B:=List Pl×Int×Int) (λa b=>dpH (b.1++a.1.drop (J b.1)) (J a.1) a.2 b.2.1 b.2.2)
  (λa b=>J a.1<=1000000/\b.1=(a.1.take b.2.2.toNat).filter (lr a.2)/\b.2.1=(J b.1:Int)/\0<=b.2.2/\b.2.2.toNat<=J a.1)
  (λa b=>((J a.1:Int)-b.2.2).toNat)
  (λa x=> ∃(o:List Pl) (i:Int),o=a.1.filter (lr a.2)/\i=(J o:Int)/\J o<=J a.1/\x=dpE (o++a.1.drop (J o)) (J a.1) a.2 i)
  (by
   rintro⟨m,V⟩ ⟨o,i,k⟩ ⟨hm,ho,hi,U,hk⟩;dsimp only at*
   have uo:J o<=k.toNat:=by grind
   (rw[<-qrJ];delta Uf Ug Ft Fu Fv Fw Rv Fx Ac qh Z6w fI YO Dh Zj Zl zq Zs Zz ZA ZL jB Rw ZM qP Z8 Z7 Zv Z6n Nf Uk Ul Um Uh Ui Uj Vm cp oI ln Lm Ln HP Pd qG sf Jf jA Df)
   refine b8 (λF=> ?_) λF=> ?_
   ·have Q:k.toNat<J m:=by omega
    have R:=vZ Q (lr V);have xi:=Pe (m:=m) (o:=o) (by omega);have e1:BC ((o++m.drop (J o)).map bI) k.toNat=bI m[k.toNat]:=YP Q uo;have mq:=λx:Pl=>qi4 (m:=m) (o:=o) (x:=x) (by omega);have G:i.toNat=J o:=by omega
    have L:0<=i/\i<(J m:Int):=⟨by omega,by omega⟩
    have H:(-9223372036854775808:Int)<=i+1/\i+1<=9223372036854775807:=by omega
    have eZ:(-9223372036854775808:Int)<=k+1/\k+1<=9223372036854775807:=by omega
    have e2:BC ((o++m.drop (J o)).map bI) i.toNat=bI m[i.toNat]:=YP (by omega) (by omega);rw[e1,e2];generalize m[k.toNat]=g at*
    generalize m[i.toNat]=y at*
    have w1: ∀x y:Pl,D.aY (AM [ue DD (AC (vc (bI x) 0)),ue DD (AC (vc (bI x) 1)),ue DD (AC (vc (bI x) 2)),ue DD (AC (vc (bI x) 3)),ue DD (AC (vc (bI x) 4)),ue DD (AC (vc (bI x) 5)),FS (Q1 (vc (bI x) 6)),ID (Q3 (vc (bI x) 7))]) [ue DD (AC (vc (bI y) 0)),ue DD (AC (vc (bI y) 1)),ue DD (AC (vc (bI y) 2)),ue DD (AC (vc (bI y) 3)),ue DD (AC (vc (bI y) 4)),ue DD (AC (vc (bI y) 5)),FS (Q1 (vc (bI y) 6)),ID (Q3 (vc (bI y) 7))]=bI y:=λ_ _=>rfl;rw[w1,G,<-zbA,mq];simp only[zaa,xi];refine ar ⟨U,F⟩ (ar Q (ao (fJ _) ⟨g,V,rfl,rfl,az (λh=> ?_) λh=> ?_⟩))
    ·refine ar L (ar (by omega) (ao (fJ _) (ar H (ar eZ ?_))));refine⟨((J m:Int)-(k+1)).toNat,by omega,(o++[g],i+1,k+1),rfl,⟨hm,?_,?_,by grind,by grind⟩,rfl⟩
     ·show o++[g]=_;rw[show(k+1).toNat=k.toNat+1 by omega,R,zau (by rw[pj];exact h),ho]
     grind
    refine ar eZ ?_;refine⟨((J m:Int)-(k+1)).toNat,by omega,(o,i,k+1),rfl,⟨hm,?_,hi,by grind,by grind⟩,rfl⟩;show o=_;rw[show(k+1).toNat=k.toNat+1 by omega,R,zat (by rw[pj,h];simp),zaL];exact ho
   refine⟨o,i,?_,hi,by omega,rfl⟩;rw[ho,zak (by omega)])
  (by
   rintro s E ⟨m,V,i,k,rfl,l,F⟩;have C8:=l.kl;have U:=l.i0;have hik:=l.ik;have hl:J (m.take i.toNat)=i.toNat:=by rw[zaG];omega
   refine⟨(m,V),(m.take i.toNat,i,k),?_,⟨l.len,l.eq.symm,?_,by grind,by grind⟩,?_⟩
   ·skip
    rw[hl,zbg]
   ·grind
   grind)
theorem qi6{m V}(h: ∀j (l:j<J m),iW V m[j]=C):m.filter (lr V)=m:=by rw[zb7];grind [List.getElem_of_mem,pj]
theorem YQ{m V i}(l:J m<=1000000)(A:i.toNat<J m)(B:0<=i)(h:iW V m[i.toNat]=O)(G: ∀j (F:j<i.toNat),iW V (m[j]'(by omega))=C):qi2 m V i (i+1):=by refine⟨l,B,rfl,by omega,?_⟩;rw[show(i+1).toNat=i.toNat+1 by omega,vZ A,zat (by rw[pj,h];simp),zaL,zb7];grind [List.mem_take_iff_getElem,pj]
theorem qrK:FD X 47 hDp:=IN (.cons qmX .nil) (.cons qi5 .nil) (by
 intro ps R E G;obtain⟨m,V,rfl,rfl,l,B⟩:=G
 (rw[<-qmW];delta Z6D Uf Ug Ft Fu Fv Fw Rv Fx Ac qh Z6w Z2 nA Z5 uL fp Z6H Zs qa Zj Zl ZQ Fz Zz ZA ZL zq jB Rw qQ Jg Z8 Z7 Zv iB fI YO Dh Z6F)
 refine⟨m,V,rfl,rfl,l,λi F L A H=>zp (λh=>by omega) λ_=>ar (by omega) ⟨m,V,i,i+1,rfl,YQ l F L A H,λo i' ho Q U=> ?_⟩,λh=> ?_⟩
 ·grind
 have:=B m [] (qi6 h).symm;rwa [zaL] at this)
end
abbrev vwZ(z:Bool)(V:bQ):List (Nat×En):=[(0,⟨0,Z 0,.box 74 [.sl 1 0 (J V.gs),.sl 2 0 (J V.os),.mp 3 0,.sl 4 0 (J V.A),.sl 5 0 (J V.P),.mp 6 0,.sl 7 0 (J V.H),.sl 8 0 (J V.L)]⟩),(1,⟨0,Z 1,.arr 31 C V.gs⟩),(2,⟨0,Z 2,.arr 27 C V.os⟩),(3,⟨0,Z 3,.map 27 V.f V.c C⟩),(4,⟨0,Z 4,.arr 49 z V.A⟩),(5,⟨0,Z 5,.arr 108 z V.P⟩),(6,⟨0,Z 6,.map 49 V.d V.n C⟩),(7,⟨0,Z 7,.arr 121 C V.H⟩),(8,⟨0,Z 8,.arr 121 C V.L⟩)]
def qgv(V:bQ) x:=Q3 (aK (V.d (aF x)) (.bool C))
def rS(V:bQ)(p:Pl):Pl:=(p.1,p.2.1,p.2.2.1,qgv V p.1)
abbrev qi7 q V:=vwZ O V++[(9,⟨0,Y,.box 61 [.ref 0 0 0]⟩),(10,⟨0,Y,.arr 108 C q⟩)]
abbrev qi8(q:List Pl)(tl:List D)(n:Nat)(V:bQ)(i:Int):S:=⟨48,[(0,.ref 0 0 0),(1,.ref 9 0 0),(3,.sl 10 0 n),(18,.sl 10 0 n),(19,.d (.int DD (n:Int))),(20,.d (.int DD i))],qi7 (q.map bI++tl) V⟩
def Z6X:=(9,we 0 Y (GT (61:I) oI))
def Z6W V:=(8,we 0 (Z 8) (Uf V))
def Z6V V:=(7,we 0 (Z 7) (Ug V))
def Ck V:=(6,we 0 (Z 6) (Ft V))
def D4 V:=(5,we 0 (Z 5) (Fu V))
def D5 V:=(4,we 0 (Z 4) (Fv V))
def Cl V:=(3,we 0 (Z 3) (Fw V))
def Z6Q V:=(2,we 0 (Z 2) (Rv V))
def Cm V:=(1,we 0 (Z 1) (Fx V))
def Vn V:=GT (74:I) [If 1 0 (Ac V),If 2 0 (J (bQ.os V)),kP,If 4 0 (J (bQ.A V)),If 5 0 (J (bQ.P V)),P.mp 6 0,If 7 0 (J (bQ.H V)),If 8 0 (J (bQ.L V))]
def Cn V:=(0,we 0 (Z 0) (Vn V))
def Z6Y V q tl:=[Cn V,Cm V,Z6Q V,Cl V,D5 V,D4 V,Ck V,Z6V V,Z6W V,Z6X,(10,we 0 Y (AS (108:I) C (fI q++tl)))]
def Z6M:=(1,RK 9 0 0)
def Ng q tl i:=BC (fI q++tl) (Zs i)
def Z6L q tl i:=ue DD (AC (vc (Ng q tl i) 2))
def Z6K q tl i:=ue DD (AC (vc (Ng q tl i) 1))
def Z6J q tl i:=ue DD (AC (vc (Ng q tl i) 0))
theorem qgw q tl n V i E:(bif Df i n then ob (jA i n) (ob (decide (Zs i<J (fI q++tl))) (ob (bE PR (108:I) (Ng q tl i)) (ob (bE PR (4:I) (aK (bQ.d V (AM [Z6J q tl i,Z6K q tl i,Z6L q tl i])) Z2)) (ob (jA i n) (ob (decide (Zs i<J (fI q++tl))) (ob (bE PR (108:I) (Ng q tl i)) (ob (Zv i) (E (xz,AD 48 [fq,Z6M,(3,If 10 0 n),(18,If 10 0 n),(19,Z31 n),(20,ZA i)] [Cn V,Cm V,Z6Q V,Cl V,D5 V,D4 V,Ck V,Z6V V,Z6W V,Z6X,(10,we 0 Y (AS (108:I) C (tz (fI q++tl) (Zs i) (D.aY (AM [Z6J q tl i,Z6K q tl i,Z6L q tl i,ue DD (AC (vc (Ng q tl i) 3)),ue DD (AC (vc (Ng q tl i) 4)),ue DD (AC (vc (Ng q tl i) 5)),FS (Q1 (vc (Ng q tl i) 6)),ID (Q3 (vc (Ng q tl i) 7))]) [Z6J q tl i,Z6K q tl i,Z6L q tl i,ue DD (AC (vc (Ng q tl i) 3)),ue DD (AC (vc (Ng q tl i) 4)),ue DD (AC (vc (Ng q tl i) 5)),FS (Q1 (vc (Ng q tl i) 6)),ID (Q3 (aK (bQ.d V (AM [Z6J q tl i,Z6K q tl i,Z6L q tl i])) Z2))]))))]))))))))) else E (CE 0,AD 48 [fq,Z6M,(3,If 10 0 n)] (Z6Y V q tl)))=(aG [] [] 25 4 (qi8 q tl n V i)) E:=by kernel_rfl
def qmY:S->K (PX×S):=λs E=> ∃o tl V,s=qi8 o tl (J o) V 0/\J o<=1000000/\ ∀h,h=o.map (rS V)->E (.exit 0,⟨48,[(0,.ref 0 0 0),(1,.ref 9 0 0),(3,.sl 10 0 (J o))],qi7 (h.map bI++tl) V⟩)
def zr V (o:List Pl) k:=(o.take k).map (rS V)++o.drop k
theorem LQ V o k:J (zr V o k)=J o:=by simp[zr];omega
theorem YR V {o k}(h:k<J o):(zr V o k)[k]'(by rw[LQ];exact h)=o[k]:=by grind [zr]
theorem YS V {o k}(h:k<J o):(zr V o k).set k (rS V o[k])=zr V o (k+1):=by
 unfold zr;have l:J ((o.take k).map (rS V))=k:=by simp;omega
 rw[List.set_append_right _ _ (by omega),l,zcP,za3 h,zc2,zah h,zaC,zaW];rfl
theorem qd2{l tl k}(h:k<J l):BC (l.map bI++tl) k=bI l[k]:=by grind [BC,List.getElem?_append_left]
theorem qd3{l tl k}(h:k<J l) p:(l.map bI++tl).set k (bI p)=(l.set k p).map bI++tl:=by rw[List.set_append_left _ _ (by grind),zbA]
section
variable{X:XF}
theorem qd4:LD X 25 4 (ah (aV 25 4) qmY):=LD.idx .nil .nil
 (A:=List Pl×List D×bQ) (B:=Unit) (λa _ i=>qi8 (zr a.2.2 a.1 i.toNat) a.2.1 (J a.1) a.2.2 i) (λa=>J a.1) (λa _ _=>J a.1<=1000000)
 (λa x=>x=(.exit 0,⟨48,[(0,.ref 0 0 0),(1,.ref 9 0 0),(3,.sl 10 0 (J a.1))],qi7 ((a.1.map (rS a.2.2)).map bI++a.2.1) a.2.2⟩))
 (by
  rintro⟨o,tl,V⟩ _ i E h0 dE bB F hn ho;dsimp only at*
  (rw[<-qgw];delta fI cp oI Z6X Uf Z6W Ug Z6V Ft Ck Fu D4 Fv D5 Fw Cl Rv Z6Q Fx Cm kP Ac Vn Cn Z6Y Zz ZA Z31 Z6M fq Z8 Z7 Zv Z2 Zs Ng Z6L Z6K Z6J jA Df)
  have G:=LQ V o i.toNat;have e1:BC ((zr V o i.toNat).map bI++tl) i.toNat=bI o[i.toNat]:=by rw[qd2 (by omega),YR V bB]
  have Q:=qd3 (l:=zr V o i.toNat) (tl:=tl) (k:=i.toNat) (by omega) (rS V o[i.toNat]);rw[YS V bB] at Q;have R:i.toNat<J ((zr V o i.toNat).map bI++tl):=by rw[zaf,zaa,G];omega
  have L:=hn () F;rw[show(i+1).toNat=i.toNat+1 by omega] at L;rw[e1];generalize o[i.toNat]=p at*
  have w1:D.aY (AM [ue DD (AC (vc (bI p) 0)),ue DD (AC (vc (bI p) 1)),ue DD (AC (vc (bI p) 2)),ue DD (AC (vc (bI p) 3)),ue DD (AC (vc (bI p) 4)),ue DD (AC (vc (bI p) 5)),FS (Q1 (vc (bI p) 6)),ID (Q3 (vc (bI p) 7))]) [ue DD (AC (vc (bI p) 0)),ue DD (AC (vc (bI p) 1)),ue DD (AC (vc (bI p) 2)),ue DD (AC (vc (bI p) 3)),ue DD (AC (vc (bI p) 4)),ue DD (AC (vc (bI p) 5)),FS (Q1 (vc (bI p) 6)),ID (Q3 (aK (V.d (AM [ue DD (AC (vc (bI p) 0)),ue DD (AC (vc (bI p) 1)),ue DD (AC (vc (bI p) 2))])) (ID C)))]=bI (rS V p):=rfl;rw[w1,Q];obtain⟨b,H⟩:=V.bb p.1;have H:aK (V.d (AM [ue DD (AC (vc (bI p) 0)),ue DD (AC (vc (bI p) 1)),ue DD (AC (vc (bI p) 2))])) (ID C)= .bool b:=H;rw[H];exact dv dE (ar ⟨h0,dE⟩ (ar R (ao (fJ _) (ao (qd0 b) (ar ⟨h0,dE⟩ (ar R (ao (fJ _) (ar (by omega) L)))))))))
 (by
  rintro⟨o,tl,V⟩ _ i E hi F ho
  (rw[<-qgw];delta fI cp oI Z6X Uf Z6W Ug Z6V Ft Ck Fu D4 Fv D5 Fw Cl Rv Z6Q Fx Cm kP Ac Vn Cn Z6Y Zz ZA Z31 Z6M fq Z8 Z7 Zv Z2 Zs Ng Z6L Z6K Z6J jA Df)
  refine Cj (by omega) (ho _ (λh=>by cases h) ?_);simp_all [zr])
 (by rintro s E ⟨o,tl,V,rfl,F,U⟩;refine⟨(o,tl,V),(),rfl,F,?_⟩;grind)
end
abbrev Hd:=aN×aN
theorem tu:Lq (λa b:aN=>pq a b) where
 KE x:=by simp[ug]
 tr x y z:=by grind [ug]
 wX x y:=by grind [ug]
def Nh(o:List Hd) h:=if(o.any λx=>x.1==h.1)=O then o else o++[h]
def FA(l:List Hd):=l.foldl Nh []
theorem Un{o} h (l:(o.map (·.1)).Nodup):((Nh o h).map (·.1)).Nodup:=by grind [Nh]
theorem FB: ∀(l o:List Hd),(o.map (·.1)).Nodup->((l.foldl Nh o).map (·.1)).Nodup
 | [],_,h=>h
 |x::r,_,h=>FB r _ (Un x h)
theorem FE l:((FA l).map (·.1)).Nodup:=FB l [] (by simp)
theorem qd5 o h:J (Nh o h)<=J o+1:=by grind [Nh]
theorem Rx: ∀l o,J (l.foldl Nh o)<=J o+J l
 | [],_=>by simp
 |x::r,o=>by have:=Rx r (Nh o x);have:=qd5 o x;grind
theorem H6 l:J (FA l)<=J l:=by simpa [FA] using Rx l []
theorem Ry: ∀(l o:List Hd),((o++l).map (·.1)).Nodup->l.foldl Nh o=o++l
 | [],o,_=>by simp
 |x::r,o,h=>by
  have e:Nh o x=o++[x]:=by grind [Nh]
  rw[zbh,e,Ry r (o++[x]) (by grind)];simp
theorem qd6{l}(h:(l.map (·.1)).Nodup):FA l=l:=by grind [FA,Ry]
def ltH(a b:Hd):=pq a.1 b.1
def qJ l:=dL ltH (FA l)
theorem kG{α β:Type}{f:α->β}: ∀{l:List α},(l.map f).Nodup-> ∀x∈l,∀y∈l,f x=f y->x=y
 | [],_,x,hx,_,_,_=>by cases hx
 |a::r,h,x,hx,y,hy,e=>by
  rw[zaS,zaU] at h;rcases zao.1 hx with A |A
  ·grind
  rcases zao.1 hy with B |B
  ·grind
  exact kG h.2 x A y B e
theorem qd7{l a}(h:a.Perm (FA l))(F:a.Pairwise λx y=>ltH y x=C):a=qJ l:=
 kb tu (λa:Hd=>a.1) (λx B y A e=>kG (FE l) x (h.mem_iff.1 B) y (h.mem_iff.1 A) e) (h.trans (cm _).symm) F (lS tu (λa:Hd=>a.1) _)
theorem LS l:J (qJ l)<=J l:=by unfold qJ;rw[(cm _).length_eq];exact H6 l
def D6(on:List Hd) h:=if(on.any λx=>x.2==h.1)=O then on else on++[h]
def Pf(l on:List Hd):=l.foldl D6 on
def Ni l:=((Pf (qJ l).reverse []).map (·.1)).reverse
theorem qd8 o h:J (D6 o h)<=J o+1:=by grind [D6]
theorem H7: ∀l o,J (Pf l o)<=J o+J l
 | [],_=>by simp[Pf]
 |x::r,o=>by have:=H7 r (D6 o x);have:=qd8 o x;grind [Pf]
theorem qd9 l:J (Ni l)<=J l:=by grind [Ni,H7,qJ,LS]
def nD o g:=if fu g=O/\(o.any λx=>x.s==g.s)=C then o++[g] else o
def aC(l:List au):=l.foldl nD []
def k8(g:au):Hd:=(g.s,g.je)
theorem YT o g:J (nD o g)<=J o+1:=by grind [nD]
theorem LU: ∀l o,J (l.foldl nD o)<=J o+J l
 | [],_=>by simp
 |x::r,o=>by have:=LU r (nD o x);have:=YT o x;grind
theorem qi l:J (aC l)<=J l:=by simpa [aC] using LU l []
theorem LV l g:aC (l++[g])=nD (aC l) g:=by simp[aC]
theorem YU{P:au->Prop}(A: ∀g,fu g=O->P g): ∀(l o:List au),(∀g∈o,P g)-> ∀g∈l.foldl nD o,P g
 | [],_,h=>h
 |x::r,o,h=>by refine YU A r _ ?_;grind [nD]
theorem qj{l}: ∀g∈aC l,fu g=O:=YU (P:=λg=>fu g=O) (λ_ h=>h) l [] (λ_ h=>by cases h)
theorem LW: ∀(l o:List au),∀g∈l.foldl nD o,g∈o\/g∈l
 | [],_,g,h=> .inl h
 |x::r,o,g,h=>by
  rcases LW r _ g h with h |h
  ·grind [nD]
  grind
theorem Co{l g}(h:g∈aC l):g∈l:=by
 rcases LW l [] g h with h |h
 ·cases h
 exact h
theorem Cp: ∀(l o:List au),(o.map (·.s)).Nodup->((l.foldl nD o).map (·.s)).Nodup
 | [],_,h=>h
 |x::r,o,h=>by refine Cp r _ ?_;grind [nD]
theorem v7 l:((aC l).map (·.s)).Nodup:=Cp l [] (by simp)
theorem Cq: ∀(l o:List au),(∀g∈l,fu g=O)->((o++l).map (·.s)).Nodup->l.foldl nD o=o++l
 | [],o,_,_=>by simp
 |x::r,o,hc,h=>by
  have e:nD o x=o++[x]:=by grind [nD]
  rw[zbh,e,Cq r (o++[x]) (λg A=>hc g (.tail _ A)) (by grind)];simp
theorem mT{l}(A: ∀g∈l,fu g=O)(h:(l.map (·.s)).Nodup):aC l=l:=by grind [aC,Cq]
def tv(l:List au):=l.foldl (λt g=>max t g.s.1) 0
theorem YV l g:tv (l++[g])=max (tv l) g.s.1:=by simp[tv]
theorem Pg{B}(F:0<=B): ∀l,(∀g∈l,g.s.1<=B)->tv l<=B:=by
 intro l h;have A: ∀(l:List au) (m:Int),m<=B->(∀g∈l,g.s.1<=B)->l.foldl (λt g=>max t g.s.1) m<=B:=by
  intro l
  induction l with
  |nil=>simp
  |cons g t ih=>grind
 exact A l 0 F h
theorem rT l:0<=tv l/\ ∀g∈l,g.s.1<=tv l:=by
 have h: ∀(l:List au) (m:Int),m<=l.foldl (λt g=>max t g.s.1) m/\ ∀g∈l,g.s.1<=l.foldl (λt g=>max t g.s.1) m:=by
  intro l
  induction l with
  |nil=>simp
  |cons g t ih=>grind
 exact h l 0
def gJ l:=Ni ((aC l).map k8)
abbrev aT:=ak×aN
structure Tl where
 a:List ak
 p:List Pl
 h:List aT
 g:List aT
def tl0:Tl:=⟨[],[],[],[]⟩
def Cr(o:bq):Pl:=(o.node,o.parent,o.name,o.dir)
def nS on (o:bq):=o.kind==0 || (o.kind==1&&on)
def v8 on (o:bq):=on&& !(o.kind==2)
def tlO(on:Bool)(s:aN)(t:Tl)(o:bq)(k:Nat):Tl:=
 ⟨if nS on o=O then t.a++[(s.1,s.2,(k:Int))] else t.a,if nS on o=O then t.p++[Cr o] else t.p,
  if v8 on o=O then t.h++[(o.node,s)] else t.h,if on=O then t.g++o.cV.map (λd=>(o.node,d)) else t.g⟩
def YW on s (l:List bq) t:=l.zipIdx.foldl (λt p=>tlO on s t p.1 p.2) t
def Uo(on:List aN) t (g:au):=YW (decide (g.s∈on)) g.s g.ops t
def pk on (l:List au):=l.foldl (Uo on) tl0
theorem LX{on s l t}{i}(h:i<J l):YW on s (l.take (i+1)) t=tlO on s (YW on s (l.take i) t) l[i] i:=by grind [YW,i6,List.length_take,Nat.min_eq_left,Nat.le_of_lt]
theorem LZ{on l i}(h:i<J l):pk on (l.take (i+1))=Uo on (pk on (l.take i)) l[i]:=by grind [pk,i6]
def cK(l:List au):=(l.map λg=>J g.ops).sum
theorem wa:cK []=0:=rfl
theorem fF g l:cK (g::l)=J g.ops+cK l:=by rfl
theorem Ct a b:cK (a++b)=cK a+cK b:=by simp[cK]
theorem iX l i:cK (l.take i)<=cK l:=by have:=Ct (l.take i) (l.drop i);rw[zbg] at this;omega
theorem kc{l i}(h:i<J l):cK (l.take (i+1))=cK (l.take i)+J l[i].ops:=by rw[zah h,Ct,fF,wa];omega
def Ad n (t:Tl):=J t.a=J t.p/\J t.a<=n/\J t.h<=n/\J t.g<=200*n
theorem Ad.zero:Ad 0 tl0:=⟨rfl,zag _,zag _,zag _⟩
theorem Ad.mono{n m t}(h:Ad n t)(l:n<=m):Ad m t:=⟨h.1,by have:=h.2.1;omega,by have:=h.2.2.1;omega,by have:=h.2.2.2;omega⟩
theorem Ad.op{n t}(h:Ad n t){on s o k}(hd:J o.cV<=200):Ad (n+1) (tlO on s t o k):=by grind [Ad,tlO]
theorem Ad.ops{n t}(h:Ad n t){on s l}(hd: ∀o∈l,J o.cV<=200): ∀i,i<=J l->Ad (n+i) (YW on s (l.take i) t)
 |0,_=>by simpa [YW] using h
 |i+1,hi=>by rw[LX hi];exact(Ad.ops h hd i (by omega)).op (hd _ (zay hi))
theorem Ad.grp{n t}(h:Ad n t){on g}(hd: ∀o∈g.ops,J o.cV<=200):Ad (n+J g.ops) (Uo on t g):=by have:=Ad.ops h (on:=decide (g.s∈on)) (s:=g.s) hd (J g.ops) (zag _);rwa [zan] at this
theorem YX{s k n o}(h:Nd s k o=Z n):J o.cV<=200:=by
 unfold Nd at h;split at h
 ·cases h
 rename_i l;by_cases A:o.kind=2
 ·skip
  grind [LF]
 grind [yX,Yz]
theorem L4{P:bq->Prop}{s}(A: ∀k n o,Nd s k o=Z n->P o): ∀l k,sP s k l=O-> ∀o∈l,P o
 | [],_,_,_,h=>by cases h
 |o::r,k,h,x,hx=>by
  unfold sP at h;split at h
  next n B=>
   rcases zao.1 hx with rfl |hx
   ·grind
   exact L4 A r _ h x hx
  cases h
theorem Rz{g}(h:fu g=O):sP g.s 0 g.ops=O:=by
 unfold fu at h;rw[zac] at h;have l:=h.2;split at l
 ·simp only[zac,zbV] at l;rw[zaz l.2];rfl
 grind
theorem L5{g}(h:fu g=O): ∀o∈g.ops,J o.cV<=200:=L4 (P:=λo=>J o.cV<=200) (λ_ _ _ h=>YX h) _ _ (Rz h)
theorem L6{g}(h:fu g=O):J g.ops<=200:=by grind [fu]
theorem YY{on l}(h: ∀g∈l,fu g=O): ∀i,i<=J l->Ad (cK (l.take i)) (pk on (l.take i))
 |0,_=>by simpa [pk,wa] using Ad.zero
 |i+1,hi=>by rw[LZ hi,kc hi];exact(YY h i (by omega)).grp (L5 (h _ (zay hi)))
def Di l A h:=BC (fI l) (dd (eJ A h))
def Z77 l A h:=ue DD (AC (vc (Di l A h) 5))
def Z76 l A h:=ue DD (AC (vc (Di l A h) 4))
def Z75 l A h:=ue DD (AC (vc (Di l A h) 3))
def Z78 l A h:=(0,we 0 Y (GT (49:I) [Cs (Z75 l A h),Cs (Z76 l A h),Cs (Z77 l A h)]))
def Z74:=(5,jB)
def Z72 A h l:=decide ((0:Int)<=eJ A h/\eJ A h<(↑(sf l):Int))
def Z71:=[(6,Cs Z2)]
def Z70 l h:=decide (eJ l h<(0:Int))
def Z6Z(x:ak)(y:ak):=ba x==ba y&&(gD x==gD y&&O)&&(fO x==fO y&&O)
abbrev wiL(z:Bool)(l:List Pl)(n:Nat)(x y:ak)(k:Int):S:=⟨28,[(0,.sl 0 0 n),(4,.ref 1 0 0),(5,.ref 2 0 0),(7,iD k)],Fo z l++bxI 1 x++bxI 2 y⟩
def qmZ:S->K (PX×S):=λs E=> ∃z l x y,s=wiL z l (J l) x y 0/\J l<=1000000/\(∀b,b=within l x y->E (.ret,⟨28,[(0,.sl 0 0 (J l)),(6,.d (.bool b))],Fo z l⟩))/\(within l x y=O->E (.exit 0,⟨28,[(0,.sl 0 0 (J l))],Fo z l⟩))
def D7 y:=(2,pd y)
def L7 h l:=BC (fI h) (dd (eJ h l))
def Z7a h l:=decide (dd (eJ h l)<sf h)
theorem qm0 z l (n:Nat) x y k E:(bif decide (k<=(↑n:Int)) then bif Z6Z x y then E (Q2,AD 28 [qP n,(6,ZT)] (Je z l)) else∃B h A,ZM n::gW x=qQ h::gW A/\Je z l=Je B h/\iB h/\bif Z70 h A then E (Q2,AD 28 (qP n::Z71) (Je B h)) else ob (decide ((0:Int)<=eJ h A/\eJ h A<(↑n:Int))) (ob (Z7a h A) (ob (bE PR (108:I) (L7 h A)) (ob (Zv k) (E (xz,AD 28 (qP n::(4,jB)::(5,qh)::ZR k) [T4 B h,(1,we 0 Y (GT (49:I) [Cs (ue DD (AC (vc (L7 h A) 3))),Cs (ue DD (AC (vc (L7 h A) 4))),Cs (ue DD (AC (vc (L7 h A) 5)))])),D7 y]))))) else E (CE 0,AD 28 [qP n] (Je z l)))=(aG [(97,qgo)] [] 96 2 (wiL z l n x y k)) E:=by kernel_rfl
def Z7e h l:=[(1,pd h),D7 l]
def Z7d:=(4,jB)::(5,qh)::xD
theorem qi9 z l n x y E:(∃A h B F,AD 28 (qP n::Z7d) (T4 z l::Z7e x y)=AD 28 (Jg h::Z7d) (T4 A h::Z7e B F)/\iB h/\(∀b,b=within h B F->E (iF b,Je A h))/\(within h B F=O->E (ZT,Je A h)))=(aO [] [(2,ah (aV 96 2) qmZ)] 96 [.sl 0 0 n,.d (aF x),.d (aF y)] (Fo z l)) E:=by kernel_rfl
def qm1:bc:=λps R E=> ∃z l x y,ps=[.sl 0 0 (J l),.d (aF x),.d (aF y)]/\R=Fo z l/\J l<=1000000/\ ∀b,b=within l x y->E (.d (.bool b),Fo z l)
abbrev qja(l:List Pl)(x:ak)(k:Int):S:=⟨39,[(0,ew l),(3,.ref 0 0 0),(5,iD k)],bxI 0 x⟩
def gRo:S->K (PX×S):=λs E=> ∃l x,s=qja l x 0/\J l<=1000000/\(∀b,b=mN l x->E (.ret,⟨39,[(4,.d (.bool b))],[]⟩))/\(mN l x=C->E (.exit 0,⟨39,[],[]⟩))
def Z7f(E:PX×S->Prop):=E (Q2,AD 39 Zu [])
theorem qm2 l x k E:(bif decide (k<=(↑(sf l):Int)) then∃h A,jP l::gW x=jP h::gW A/\Zn/\iB h/\bif Z70 h A then Z7f E else ob (Z72 h A l) (ob (bE PR (108:I) (Di l h A)) (bif AC (vc (Di l h A) 3)==(0:Int)&&(AC (vc (Di l h A) 4)==(0:Int)&&O)&&(AC (vc (Di l h A) 5)==(0:Int)&&O) then E (Q2,AD 39 Ri []) else∃B x,[jP l,Cs (AM [Z75 l h A,Z76 l h A,Z77 l h A])]=jP B::gW x/\Zn/\iB B/\bif Z70 B x then Z7f E else ob (Z72 B x l) (ob (bE PR (108:I) (Di l B x)) (bif !Q3 (vc (Di l B x) 7) then Z7f E else ob (Zv k) (E (xz,AD 39 (xO l::eN::ZB k) [Z78 l h A])))))) else E (CE 0,AD 39 [] []))=(aG [(97,qiQ)] [] 144 2 (qja l x k)) E:=by kernel_rfl
theorem qm3 l x E:(∃h A,AD 39 (xO l::eN::ZS) (O4 x)=AD 39 (xO h::eN::ZS) (O4 A)/\iB h/\(∀b,b=mN h A->E (iF b,[]))/\(mN h A=C->Z3 E))=(aO [] [(2,ah (aV 144 2) gRo)] 144 [ew l,.d (aF x)] []) E:=by kernel_rfl
def qm4:bc:=λps R E=> ∃l x,ps=[ew l,.d (aF x)]/\R=[]/\J l<=1000000/\ ∀b,b=mN l x->E (.d (.bool b),[])
def YZ:bc:=λps R E=> ∃l x,ps=[.sl 0 0 (J l),.d (aF x)]/\R=Fo C l/\J l<=1000000/\E (iD (eJ l x),Fo C l)
abbrev riH(l o:List Pl)(n:Nat)(k:Int):S:=⟨43,[(0,ew l),(3,.sl 0 0 n),(4,iD k)],[(0,⟨0,Y,.arr 108 C (o.map bI)⟩)]⟩
def gRi:S->K (PX×S):=λs E=> ∃l,s=riH l [] 0 0/\J l<=1000000/\E (.exit 0,⟨43,[(3,.sl 0 0 (J (il l)))],[(0,⟨0,Y,.arr 108 C ((il l).map bI)⟩)]⟩)
def Ur h:=we 0 Y (AS (108:I) C (fI h))
def wb h:=[(0,Ur h)]
def Cu k:=[(4,ZA k)]
def Z7m k (E:PX×S->Prop) l n h:=ob (Zv k) (E (xz,AD 43 (xO l::(3,ZM n)::Cu k) (wb h)))
def Z7j n h l k:=we 0 Y (AS (108:I) C (ab n (fI h)++[AM (Pd l k)]))
def Z7h n l k:=n+J [AM (Pd l k)]
def Y0 h:=[YO h]
theorem qrL l o n k E:(bif Yn k l then ob (HQ k l) (ob (qG l k) (∃t r i,XW l k=sM t r i/\Zn/\bif bt t r i then ob (HQ k l) (ob (qG l k) (∃s,[Cs (FS (Q1 (vc (ln l k) 6)))]=lH s/\Zn/\bif cR s then ob (HQ k l) (ob (qG l k) (∃h x,ZM n::XW l k=qQ h::gW x/\Y0 o=Y0 h/\iB h/\bif Z70 h x then ob (HQ k l) (ob (qG l k) (ob (gr n (sf h)&&aB (Z7h n l k) 72) (ob (Zv k) (E (xz,AD 43 (xO l::(3,If 0 0 (Z7h n l k))::Cu k) [(0,Z7j n h l k)]))))) else Z7m k E l n h)) else Z7m k E l n o)) else Z7m k E l n o)) else E (CE 0,AD 43 [(3,ZM n)] (wb o)))=(aG [(192,o5),(186,Fg),(97,YZ)] [] 143 3 (riH l o n k)) E:=by kernel_rfl
def Z7r h:=(0,we 0 Y (AS (108:I) C (aa bI (il h))))
def Dj:=we 0 Y (AS (108:I) C [])
def Us:=[(4,Cs Z5)]
def Y1:=(3,ZV)::Us
def Z7q h:=AD 43 (xO h::Y1) [(0,Dj)]
theorem qm5 l E:(∃h,Z7q l=Z7q h/\iB h/\E (If 0 0 (J (il h)),[Z7r h]))=(aO [] [(3,ah (aV 143 3) gRi)] 143 [ew l] []) E:=by kernel_rfl
def hRi:bc:=λps R E=> ∃l,ps=[ew l]/\R=[]/\J l<=1000000/\E (.sl 0 0 (J (il l)),[(0,⟨0,Y,.arr 108 C ((il l).map bI)⟩)])
abbrev bxP(n:Nat)(p:Pl):List (Nat×En):=[(n,⟨0,Y,.box 108 [.d (.int DD p.1.1),.d (.int DD p.1.2.1),.d (.int DD p.1.2.2),.d (.int DD p.2.1.1),.d (.int DD p.2.1.2.1),.d (.int DD p.2.1.2.2),.d (.str p.2.2.1),.d (.bool p.2.2.2)]⟩)]
abbrev naH(l:List Pl)(p:Pl)(k:Int):S:=⟨54,[(0,ew l),(3,.ref 0 0 0),(5,iD k)],bxP 0 p⟩
def gNa:S->K (PX×S):=λs E=> ∃l p,s=naH l p 0/\J l<=1000000/\E (.ret,⟨54,[(3,.ref 0 0 0),(4,sD (fG p.2.2.1 p.1.1 p.1.2.1 p.1.2.2).1)],bxP 0 p⟩)/\E (.exit 0,⟨54,[(3,.ref 0 0 0)],bxP 0 p⟩)
def RA:=[eN]
def Z7u p:=[(0,we 0 Y (GT (108:I) [Cs (Uj p),Cs (Ui p),Cs (Uh p),Cs (ue DD (Um p)),Cs (ue DD (Ul p)),Cs (ue DD (Uk p)),Cs (FS (Nf p)),Cs (ID (bl (bl (bl p))))]))]
def Z7v k (E:PX×S->Prop) l p:=ob (Zv k) (E (xz,AD 54 (xO l::eN::ZB k) (Z7u p)))
def Z7t t r i h l A:=decide (lj t r i h l A<(0:Int))
theorem qrM l p k E:(bif Yn k l then ob (HQ k l) (ob (qG l k) (bif AC (vc (ln l k) 3)==Um p&&(AC (vc (ln l k) 4)==Ul p&&O)&&(AC (vc (ln l k) 5)==Uk p&&O) then ob (HQ k l) (ob (qG l k) (bif Q1 (vc (ln l k) 6)==Nf p then ob (HQ k l) (ob (qG l k) (∃t r i h A B,[Z2f l k,Cs (Z6d p)]=Cs (AM (Zj t::Zj r::Zk i))::sM h A B/\Zn/\bif Z7t t r i h A B then∃s t r i,[Cs (FS (Nf p)),Cs (Z6d p)]=Cs (FS s)::sM t r i/\Zn/\E (Q2,AD 54 [eN,(4,Cs (FS (ba (fG s t r i))))] (Z7u p)) else Z7v k E l p)) else Z7v k E l p)) else Z7v k E l p)) else E (CE 0,AD 54 RA (Z7u p)))=(aG [(98,mG),(193,HJ)] [] 145 2 (naH l p k)) E:=by kernel_rfl
def Z7x h:=ba (fG (Nf h) (ba (ba h)) (ba (bl (ba h))) (bl (bl (ba h))))
theorem qm6 l p E:(∃A h,AD 54 (xO l::eN::ZS) (Z7u p)=AD 54 (xO A::eN::ZS) (Z7u h)/\iB A/\E (Cs (FS (Z7x h)),[])/\E (Cs (FS (Nf h)),[]))=(aO [] [(2,ah (aV 145 2) gNa)] 145 [ew l,.d (bI p)] []) E:=by kernel_rfl
def hNa:bc:=λps R E=> ∃l p,ps=[ew l,.d (bI p)]/\R=[]/\J l<=1000000/\ ∀s,(s=p.2.2.1\/s=(fG p.2.2.1 p.1.1 p.1.2.1 p.1.2.2).1)->E (sD s,[])
abbrev paH(l:List Pl)(p:Pl)(s:List UInt8):S:=⟨28,[(0,ew l),(3,.ref 0 0 0),(5,sD s)],bxP 0 p⟩
inductive Y2(T:List Pl)(V:List ak)(x:ak)(p:Pl):Prop
 |mk (h1:marked T V x=O) (h2:bp T x=Z p)
def gPa:S->K (PX×S):=λh E=> ∃T V x p w s,h=paH (bM T V) p s/\(J T<=1000/\Rt T/\Y2 T V x p/\Up T x w/\J s<=201)/\ ∀t,E (.exit 0,⟨28,[(5,sD t)],[]⟩)
def Z7y h:=[(47:UInt8)]++h
theorem qrN l p s E:(bif !(Um p==(0:Int)&&(Ul p==(0:Int)&&O)&&(Uk p==(0:Int)&&O)) then∃h x,[jP l,Cs (AM [ue DD (Um p),ue DD (Ul p),ue DD (Uk p)])]=jP h::gW x/\Zn/\iB h/\ob (Z72 h x l) (ob (bE PR (108:I) (Di l h x)) (∃B p,[jP l,Cs (AM [ue DD (AC (vc (Di l h x) 0)),ue DD (AC (vc (Di l h x) 1)),ue DD (AC (vc (Di l h x) 2)),Z75 l h x,Z76 l h x,Z77 l h x,FS (Q1 (vc (Di l h x) 6)),ID (Q3 (vc (Di l h x) 7))])]=[jP B,Vm p]/\Zn/\iB B/\ ∀A,A=Nf p\/A=Z7x p->ob (decide (1+jO A<=ZJ)) (ob (decide (J (Z7y A)+jO s<=ZJ)) (E (xz,AD 28 [xO l,eN,(5,Cs (FS (Z7y A++s)))] [(0,we 0 Y (GT (108:I) [Cs (ue DD (AC (vc (Di l h x) 0))),Cs (ue DD (AC (vc (Di l h x) 1))),Cs (ue DD (AC (vc (Di l h x) 2))),Cs (Z75 l h x),Cs (Z76 l h x),Cs (Z77 l h x),Cs (FS (Q1 (vc (Di l h x) 6))),Cs (ID (Q3 (vc (Di l h x) 7)))]))]))))) else E (CE 0,AD 28 [(5,Cs (FS s))] []))=(aG [(145,hNa),(97,qiQ)] [] 100 2 (paH l p s)) E:=by kernel_rfl
theorem qm7 l p E:(∃F A,[jP l,Vm p]=[jP F,Vm A]/\Zn/\iB F/\ ∀s,s=Nf A\/s=Z7x A->ob (decide (1+jO s<=ZJ)) (∃T V x h w B,AD 28 [xO l,eN,(5,Cs (FS (Z7y s)))] (Z7u p)=AD 28 [(0,Cs (IM 8 (aa bI (bM T V)))),eN,(5,Cs (FS B))] (Z7u h)/\(O2 T/\Rt T/\Y2 T V x h/\Up T x w/\jO B<=201)/\ ∀t,E (Cs (FS t),[])))=(aO [(145,hNa)] [(2,ah (aV 100 2) gPa)] 100 [ew l,.d (bI p)] []) E:=by kernel_rfl
def hPa:bc:=λps R E=> ∃T V p,ps=[ew (bM T V),.d (bI p)]/\R=[]/\(J T<=1000/\Rt T/\p∈bM T V)/\ ∀s,E (sD s,[])
theorem bx{α:Type}(f:α->D) l x:ab (J l) (l.map f)++[f x]=(l++[x]).map f:=by rw[zak (by simp),zaC];rfl
abbrev qea k (A:Prop):=cond (decide (-9223372036854775808<=k/\k<=9223372036854775807)) A False
variable{X:XF}
theorem LD.wk{H hk f id g}(hH:HD X H)(U:TC X f hk)
  {A B:Type} (hd:A->B->Int->S) (len:A->Nat) (Inv:A->Int->B->Prop) (h:A->PX×S->Prop)
  (Q: ∀a b (k:Int) E,0<=k->k<=len a->Inv a k b->(∀F,k<len a->Inv a (k+1) F->E (.normal,hd a F (k+1)))->(∀e s,e≠ .normal->h a (e,s)->E (e,s))->aG H hk f id (hd a b k) E)
  (V: ∀s E,g s E-> ∃a b,s=hd a b 0/\Inv a 0 b/\ ∀e s,h a (e,s)->E (e,s)) (hu:uniq PR f=O:=by kernel_rfl):LD X f id (ah (aV f id) g):=
 LD.par hH U (hu:=hu) (A:=A) (B:=B×Int) (λa b=>hd a b.1 b.2) (λa b=>(0<=b.2/\b.2<=len a)/\Inv a b.2 b.1) (λa b=>(len a-b.2).toNat) h
  (by
   rintro a ⟨b,k⟩ ⟨l,G⟩;dsimp only at*
   refine Q a b k _ l.1 l.2 G (λF hk hb=>⟨((len a:Int)-(k+1)).toNat,by omega,(F,k+1),rfl,⟨⟨by simp only;omega,by simp only;omega⟩,hb⟩,rfl⟩) ?_;intro e s cU L;cases e with
   |normal=>exact absurd rfl cU
   |exit i=>exact L
   |ret=>exact L)
  (by intro s E R;obtain⟨a,b,l,h2,G⟩:=V s E R;exact⟨a,(b,0),l,⟨⟨zbW _,by simp⟩,h2⟩,λx=>G x.1 x.2⟩)
theorem LD.sw{H hk f id g}(hH:HD X H)(hl:TC X f hk)
  {A α:Type} d (hd:A->List D->Int->S) (N:A->Nat) e (L:A->List D->S)
  (U: ∀(a:A) (o:List α) (k:Int) (E:PX×S->Prop),(0<=k/\k<N a)->N a<=1000001->J o=N a->E (.exit e,L a (o.map d))->(0<k-> ∃x y,BC (o.map d) k.toNat=d x/\BC (o.map d) (k-1).toNat=d y/\(∀z,BC ((o.map d).set k.toNat z) (k-1).toNat=d y)/\E (.normal,hd a (((o.map d).set k.toNat (d y)).set (k-1).toNat (d x)) (k-1)))->aG H hk f id (hd a (o.map d) k) E)
  (hg: ∀s E,g s E-> ∃a o k,s=hd a (o.map d) k/\(0<=k/\k<N a)/\N a<=1000001/\J o=N a/\ ∀h,J h=N a->E (.exit e,L a (h.map d))) (hu:uniq PR f=O:=by kernel_rfl):LD X f id (ah (aV f id) g):=
 LD.par hH hl (hu:=hu) (A:=A) (B:=List α×Int) (λa b=>hd a (b.1.map d) b.2) (λa b=>(0<=b.2/\b.2<N a)/\N a<=1000001/\J b.1=N a) (λ_ b=>b.2.toNat) (λa x=> ∃h:List α,J h=N a/\x=(.exit e,L a (h.map d)))
  (by
   rintro a ⟨o,k⟩ ⟨G,F,l⟩;dsimp only at*
   refine U a o k _ G F l ⟨o,l,rfl⟩ λQ=> ?_;have hk:k.toNat<J o:=by omega
   have R:(k-1).toNat<J o:=by omega
   refine⟨o[k.toNat],o[(k-1).toNat],aA _ _ _ hk,aA _ _ _ R,λz=> ?_,?_⟩
   ·have:=aA d o _ R;unfold BC at this⊢;rw[zaj,zbb (by omega),<-zaj];exact this
   exact⟨(k-1).toNat,by omega,((o.set k.toNat o[(k-1).toNat]).set (k-1).toNat o[k.toNat],k-1),by simp only[zbA],⟨⟨by simp only;omega,by simp only;omega⟩,F,by simp[l]⟩,rfl⟩)
  (by intro s E Q;obtain⟨a,o,k,G,F,l,h4,h5⟩:=hg s E Q;refine⟨a,(o,k),G,⟨F,l,h4⟩,?_⟩;rintro x ⟨h,V,rfl⟩;exact h5 h V)
theorem sr{l x}(h:bp l x=Y):eJ l x= -1:=by refine Rj λp A=> ?_;grind [bp]
theorem pn{l x p}(h:bp l x=Z p): ∃i:Nat,eJ l x=(i:Int)/\i<J l/\l.getD i ti=p:=by
 unfold bp at h;obtain⟨F,i,A,B,H⟩:=List.find?_eq_some_iff_getElem.1 h;refine⟨i,Ly (x:=p) (by rw[zae A,B]) F λy G=> ?_,A,?_⟩
 ·grind [List.getElem_of_mem,List.length_take]
 grind
section
variable{X:XF}
theorem qm8{x y:ak}(h:(x.1==y.1&&(x.2.1==y.2.1&&O)&&(x.2.2==y.2.2&&O))=O):x=y:=by grind
theorem qm9{x y:ak}(h:(x.1==y.1&&(x.2.1==y.2.1&&O)&&(x.2.2==y.2.2&&O))=C):x≠y:=by grind
theorem qeb:LD X 96 2 (ah (aV 96 2) qmZ):=LD.par (.cons Yr .nil) .nil
 (A:=List Pl×ak×ak×Bool) (B:=ak×Int) (λa b=>wiL a.2.2.2 a.1 (J a.1) b.1 a.2.2.1 b.2)
 (λa b=>J a.1<=1000000/\0<=b.2/\b.2<=J a.1+1/\dI a.1 (J a.1+1-b.2.toNat) b.1 a.2.2.1=within a.1 a.2.1 a.2.2.1)
 (λa b=>J a.1+1-b.2.toNat)
 (λa r=>(r=(.ret,⟨28,[(0,.sl 0 0 (J a.1)),(6,.d (.bool (within a.1 a.2.1 a.2.2.1)))],Fo a.2.2.2 a.1⟩))\/(within a.1 a.2.1 a.2.2.1=O/\r=(.exit 0,⟨28,[(0,.sl 0 0 (J a.1))],Fo a.2.2.2 a.1⟩)))
 (by
  rintro⟨l,x0,y,z⟩ ⟨x,k⟩ ⟨F,h0,hk,hw⟩;dsimp only at*
  (rw[<-qm0];delta fO gA gD fP fQ pd D7 fI T4 Zz ZA ZR qh jB Z8 Z7 Zv L7 sf Z7a Z2 Z71 Z70 fp iB qQ fe gW ZM Je ZT qP Z6Z)
  refine bj (λh=> ?_) λh=> ?_
  ·obtain⟨n,R⟩: ∃n,J l+1-k.toNat=n+1:=⟨J l-k.toNat,by omega⟩
   rw[R] at hw;simp only[dI] at hw;refine az (λL=> ?_) λL=>⟨z,l,x,rfl,rfl,F,?_⟩
   ·rw[zau (qm8 L)] at hw;left;rw[<-hw]
   rw[zat (qm9 L)] at hw;cases G:bp l x with
   |none=>rw[G] at hw;rw[sr G];refine nM (o9 (by decide)) (.inl ?_);rw[<-hw]
   |some p=>obtain⟨i,U,Q,H⟩:=pn G;rw[U];simp only[zbY];rw[jy Q,H];refine nN (rL (by omega)) (bu ⟨by omega,by omega⟩ (ao (o9 (by rw[zaa];exact Q)) (ao (fJ p) (ao (j9 (by omega) (by omega)) ⟨J l+1-(k+1).toNat,by omega,(p.2.1,k+1),rfl,⟨F,by grind,by grind,?_⟩,rfl⟩))));grind
  have:J l+1-k.toNat=0:=by omega
  rw[this] at hw;exact .inr ⟨hw.symm,rfl⟩)
 (by rintro s E ⟨z,l,x,y,rfl,F,h1,V⟩;refine⟨(l,x,y,z),(x,0),rfl,⟨F,by simp,by grind,rfl⟩,?_⟩;grind)
theorem qgx:FD X 96 qm1:=IN .nil (.cons qeb .nil) (by
 intro ps R E h;obtain⟨z,l,x,y,rfl,rfl,B,A⟩:=h
 (rw[<-qi9];delta ZT fI T4 Je iF fp iB qQ Jg fO gA gD fP fQ pd D7 Z7e Z5 xD qh jB Z7d ZM qP)
 grind)
theorem qjb:LD X 144 2 (ah (aV 144 2) gRo):=LD.par (.cons qgq .nil) .nil
 (A:=List Pl×ak) (B:=ak×Int) (λa b=>qja a.1 b.1 b.2)
 (λa b=>J a.1<=1000000/\0<=b.2/\b.2<=J a.1+1/\vQ a.1 (J a.1+1-b.2.toNat) b.1=mN a.1 a.2)
 (λa b=>J a.1+1-b.2.toNat)
 (λa r=>(r=(.ret,⟨39,[(4,.d (.bool (mN a.1 a.2)))],[]⟩))\/(mN a.1 a.2=C/\r=(.exit 0,⟨39,[],[]⟩)))
 (by
  rintro⟨l,x0⟩ ⟨x,k⟩ ⟨F,h0,hk,hw⟩
  (rw[<-qm2];delta fI Di Z77 Z76 Z75 Z78 Zz ZA ZB cp eN jP xO Z8 Z7 Zv ZT Ri sf Z72 Z2 Zu Z7f Z70 fp iB Zn fO gA gD fP fQ fe gW)
  simp only[zaa];refine bj (λh=> ?_) λh=> ?_
  ·obtain⟨n,U⟩: ∃n,J l+1-k.toNat=n+1:=⟨J l-k.toNat,by omega⟩
   rw[U] at hw;simp only[vQ] at hw;refine⟨l,x,rfl,rfl,F,?_⟩;cases H:bp l x with
   |none=>rw[H] at hw;rw[sr H];refine nM (o9 (by decide)) (.inl ?_);rw[<-hw]
   |some p=>
    rw[H] at hw;simp only at hw;obtain⟨i,hi,dE,Q⟩:=pn H;rw[hi];simp only[zbY];rw[jy dE,Q];refine nN (rL (by omega)) (bu ⟨by omega,by omega⟩ (ao (fJ p) (az (λR=> ?_) λR=>⟨l,p.2.1,rfl,rfl,F,?_⟩)))
    ·rw[zau (qm8 (y:=aJ) R)] at hw;left;rw[<-hw]
    rw[zat (qm9 (y:=aJ) R)] at hw;cases G:bp l p.2.1 with
    |none=>rw[G] at hw;rw[sr G];refine nM (o9 (by decide)) (.inl ?_);rw[<-hw]
    |some q=>
     rw[G] at hw;simp only at hw;obtain⟨j,V,J0,L⟩:=pn G;rw[V];simp only[zbY];rw[jy J0,L];refine nN (rL (by omega)) (bu ⟨by omega,by omega⟩ (ao (fJ q) (az (λhd=> ?_) λhd=>ao (j9 (by omega) (by omega)) ⟨J l+1-(k+1).toNat,by omega,(p.2.1,k+1),rfl,⟨F,by grind,by grind,?_⟩,rfl⟩)))
     ·have Kl:(!q.2.2.2)=O:=hd;rw[zau (by grind)] at hw;left;rw[<-hw]
     have Kl:(!q.2.2.2)=C:=hd;rw[zat (by grind)] at hw;grind
  have:J l+1-k.toNat=0:=by omega
  rw[this] at hw;exact .inr ⟨hw.symm,rfl⟩)
 (by rintro s E ⟨l,x,rfl,F,h1,h2⟩;refine⟨(l,x),(x,0),rfl,⟨F,by simp,by grind,rfl⟩,?_⟩;grind)
theorem qna:FD X 144 qm4:=IN .nil (.cons qjb .nil) (by
 intro ps R E h;obtain⟨l,x,rfl,rfl,B,A⟩:=h
 (rw[<-qm3];delta Z2 Z3 iF fp iB fO gA gD fP fQ pd Cb O4 Z5 ZS cp eN fI jP xO)
 grind)
theorem Y3:FD X 97 YZ:=Yr.weaken λps R E h=>by obtain⟨l,x,G,F,B,A⟩:=h;exact⟨C,l,x,G,F,B,A⟩
theorem L8{l x}:eJ l x<0↔(bp l x).isSome=C:=by
 cases h:bp l x with
 |none=>rw[sr h];simp
 |some p=>grind [pn]
theorem Ae(l:List Pl):(l.map bI).take (J l)=l.map bI:=zak (by simp)
theorem qjc:LD X 143 3 (ah (aV 143 3) gRi):=LD.par (.cons uf (.cons HK (.cons Y3 .nil))) .nil
 (A:=List Pl) (B:=Int) (λa k=>riH a (il (a.take k.toNat)) (J (il (a.take k.toNat))) k)
 (λa k=>J a<=1000000/\0<=k/\k.toNat<=J a)
 (λa k=>(J a-k).toNat)
 (λa x=>x=(.exit 0,⟨43,[(3,.sl 0 0 (J (il a)))],[(0,⟨0,Y,.arr 108 C ((il a).map bI)⟩)]⟩))
 (by
  rintro l k ⟨R,H,h1⟩
  (rw[<-qrL];delta fI Ur wb Zz ZA Cu ZM jP xO Z8 Z7 Zv Z7m Zs ln Lm Ln HP Pd Z7j Z7h sf Z70 fp iB YO Y0 fO gA gD fP fQ fe gW qQ lH Zn Zj Zk sM Z2f XW qG HQ Yn)
  simp only[zaa];refine bj (λh=> ?_) λh=> ?_
  ·have hk:k.toNat<J l:=by omega
   rw[jy hk];have e:il (l.take (k+1).toNat)=Dc (il (l.take k.toNat)) (l.getD k.toNat ti):=by rw[show(k+1).toNat=k.toNat+1 by omega];exact ui Dc [] l _ k.toNat hk
   have G:=vR (l.take k.toNat);rw[zaG] at G;generalize l.getD k.toNat ti=p at e;generalize il (l.take k.toNat)=T at e G;have go: ∀L,Dc T p=L-> ∃m,m<((J l:Int)-k).toNat/\ ∃b,(riH l L (J L) (k+1):S)=riH l (il (l.take b.toNat)) (J (il (l.take b.toNat))) b/\(J l<=1000000/\0<=b/\b.toNat<=J l)/\m=((J l:Int)-b).toNat:=λL hT=>⟨((J l:Int)-(k+1)).toNat,by omega,k+1,by rw[e,hT],⟨R,by omega,by omega⟩,rfl⟩
   have F:decide ((-9223372036854775808:Int)<=k+(1:Int)/\k+(1:Int)<=(9223372036854775807:Int))=O:=j9 (by omega) (by omega);refine bu ⟨H,by omega⟩ (ao (fJ _) ⟨p.1.1,p.1.2.1,p.1.2.2,rfl,rfl,az (λh3=>bu ⟨H,by omega⟩ (ao (fJ _) ⟨p.2.2.1,rfl,rfl,az (λV=>bu ⟨H,by omega⟩ (ao (fJ _) ⟨T,p.1,rfl,rfl,by omega,az (λU=>bu ⟨H,by omega⟩ (ao (fJ _) (ao ?_ (ao F ?_)))) λU=>ao F ?_⟩)) λV=>ao F ?_⟩)) λh3=>ao F ?_⟩)
   ·simp[aB];omega
   ·have Q:(bp T p.1).isSome=C:=L8.1 (zbF U);have:=go (T++[p]) (by unfold Dc;simp[Q,oC,h3,V]);rw[Ae];have e1:J (T++[p])=J T+1:=by simp
    have e2:(T++[p]).map bI=T.map bI++[bI p]:=by simp
    simp only[riH,e1,e2] at this;exact this
   ·have Q:(bp T p.1).isSome=O:=by grind [bp,L8]
    exact go T (by unfold Dc;simp[Q])
   ·refine go T ?_;grind [Dc,oC]
   refine go T ?_;grind [Dc,oC]
  rw[zak (by omega)];rfl)
 (by rintro s E ⟨l,rfl,R,hp⟩;refine⟨l,0,rfl,⟨R,by decide,by simp⟩,?_⟩;grind)
theorem qrO:FD X 143 hRi:=IN .nil (.cons qjc .nil) (by
 intro ps R E h;obtain⟨l,rfl,rfl,B,A⟩:=h
 (rw[<-qm5];delta Z7r fp iB Dj Z5 Us ZV Y1 fI jP xO Z7q)
 grind)
theorem qjd:LD X 145 2 (ah (aV 145 2) gNa):=LD.wk (.cons o8 (.cons XU .nil)) .nil
 (A:=List Pl×Pl) (B:=Unit) (λa _ k=>naH a.1 a.2 k) (λa=>J a.1) (λa _ _=>J a.1<=1000000)
 (λa x=>x=(.ret,⟨54,[(3,.ref 0 0 0),(4,sD (fG a.2.2.2.1 a.2.1.1 a.2.1.2.1 a.2.1.2.2).1)],bxP 0 a.2⟩)\/x=(.exit 0,⟨54,[(3,.ref 0 0 0)],bxP 0 a.2⟩))
 (by
  rintro⟨l,p⟩ b k E h0 C8 F hn ho
  (rw[<-qrM];delta cp eN RA Nf Uk Ul Um Uh Ui Uj Z7u Zz ZA ZB fI jP xO Z8 Z7 Zv Z7v Z7t Zn Zj Zk sM Z6d Zs ln Lm Ln HP Z2f qG sf HQ Yn)
  simp only[zaa];refine bj (λhk=> ?_) λ_=>ho _ _ (λh=>by cases h) (.inr rfl);rw[jy (by omega:k.toNat<J l)];have no:qea (k+1) (E (.normal,naH l p (k+1))):=bu (by omega) (hn b hk F);exact bu ⟨h0,hk⟩ (ao (fJ _) (az (λ_=>bu ⟨h0,hk⟩ (ao (fJ _) (az (λ_=>bu ⟨h0,hk⟩ (ao (fJ _) ⟨_,_,_,_,_,_,rfl,rfl,az (λ_=>⟨_,_,_,_,rfl,rfl,ho _ _ (λh=>by cases h) (.inl rfl)⟩) λ_=>no⟩)) λ_=>no))) λ_=>no)))
 (by rintro s E ⟨l,p,rfl,F,H,G⟩;refine⟨(l,p),(),rfl,F,?_⟩;rintro e s (h |h)<;>cases h<;>assumption)
theorem qnb:FD X 145 hNa:=IN .nil (.cons qjd .nil) (by
 intro ps R E h;obtain⟨l,p,rfl,rfl,B,A⟩:=h
 (rw[<-qm6];delta Nf Z7x fp iB Uk Ul Um Uh Ui Uj Z7u Z5 ZS cp eN fI jP xO)
 grind)
theorem Y4{T V}(hu:Uq T):Uq (bM T V):=by unfold Uq;exact kF hu V
theorem Ut{T V}(hu:Uq T){x p}(h:marked T V x=O)(l:bp T x=Z p):bp (bM T V) x=Z p:=by have:=im (Y4 (V:=V) hu) (vS h l);rwa [(cw l).2] at this
theorem Y5{p}(h:oC p=O){s}(l:s=p.2.2.1\/s=(fG p.2.2.1 p.1.1 p.1.2.1 p.1.2.2).1):J s<=200:=by grind [Rh]
theorem qje:LD X 100 2 (ah (aV 100 2) gPa):=LD.par (.cons qnb (.cons qgq .nil)) .nil
 (A:=List Pl×List ak) (B:=Pl×List UInt8×ak×Nat×List ak) (λa b=>paH (bM a.1 a.2) b.1 b.2.1)
 (λ⟨T,V⟩ ⟨p,s,x,n,w⟩=>J T<=1000/\Rt T/\marked T V x=O/\bp T x=Z p/\Up T x w/\(∀u∈w,marked T V u=O)/\n+J w<=J T/\J s<=201*(n+1))
 (λ_ b=>J b.2.2.2.2)
 (λ_ r=> ∃t,r=(.exit 0,⟨28,[(5,sD t)],[]⟩))
 (by
  rintro⟨T,V⟩ ⟨p,s,x,n,w⟩ ⟨Q,G,U,H,l,hmw,hlen,GK⟩;have hsL:J (bM T V)<=J T:=zaQ _ _
  (rw[<-qrN];delta cp eN fI jP xO Z7y ZJ jO Nf Z7x Uk Ul Um Uh Ui Uj Vm Di Z77 Z76 Z75 sf Z72 fp iB Zn fO gA gD fP fQ fe gW)
  simp only[zaa];cases l with
  |top h h0=>rw[H] at h;cases h;exact nN (by rw[h0];rfl) ⟨_,rfl⟩
  | @step _ p' q w' h h0 hq hd zO=>
   rw[H] at h;cases h;obtain⟨r,hr⟩:=zO.hd;have F:marked T V p.2.1=O:=hmw _ (by rw[hr];simp);obtain⟨i,hi,dE,R⟩:=pn (Ut G.1 F hq);refine nM ?_ ⟨bM T V,p.2.1,rfl,rfl,by omega,?_⟩
   ·have:=DW p.2.1 (0,0,0);rw[show(p.2.1==(0,0,0))=C by grind] at this;grind
   rw[hi];simp only[zbY];rw[jy dE,R];refine bu ⟨by omega,by omega⟩ (ao (fJ q) ⟨bM T V,q,rfl,rfl,by omega,λs1 oU=> ?_⟩);have AY:=Y5 (G.2 q (cw hq).1) oU;exact bu (by omega) (bu (by simp;omega) ⟨J w',by simp,(q,[47]++s1++s,p.2.1,n+1,w'),rfl,⟨Q,G,F,hq,zO,λu hu=>hmw u (by simp[hu]),by grind,by simp;omega⟩,rfl⟩))
 (by rintro s E ⟨T,V,x,p,w,s,rfl,⟨Q,G,⟨U,H⟩,l,hs⟩,hp⟩;obtain⟨w2,L,mw⟩:=lT U;have:=l.one L;subst this;refine⟨(T,V),(p,s,x,0,w),rfl,⟨Q,G,U,H,l,mw,by have:=l.len;omega,by omega⟩,?_⟩;grind)
theorem qrP:FD X 100 hPa:=IN (.cons qnb .nil) (.cons qje .nil) (by
 intro ps R E U;obtain⟨T,V,p,rfl,rfl,⟨Q,A,l⟩,L⟩:=U;obtain⟨h,B⟩:=vT l;obtain⟨w,F,_⟩:=lT B;have G:J (bM T V)<=J T:=zaQ _ _
 (rw[<-qm7];delta fp O2 Nf Uk Ul Um Uh Ui Uj Z7u Z7y cp eN fI jP xO ZJ jO Z7x iB Zn Vm)
 refine⟨bM T V,p,rfl,rfl,by omega,λs H=> ?_⟩;have AY:=Y5 (A.2 p h) H;exact bu (by omega) ⟨T,V,p.1,p,w,_,rfl,⟨Q,A,⟨B,im A.1 h⟩,F,by simp;omega⟩,λt=>L t⟩)
end
abbrev Ph(n:Nat)(z:Bool)(l:List Pl):List (Nat×En):=[(n,⟨0,Y,.arr 108 z (l.map bI)⟩)]
abbrev qec(n:Nat)(l:List It):List (Nat×En):=[(n,⟨0,Y,.arr 66 C (l.map fV)⟩)]
abbrev skH(z:Bool)(l:List Pl)(n:Nat)(v:List ak)(o:List Pl)(m:Nat)(i:Int):S:=⟨62,[(0,.sl 0 0 n),(1,cF v),(5,.sl 1 0 m),(6,iD i)],Ph 0 z l++Ph 1 C o⟩
abbrev skI(z:Bool)(l:List Pl)(n:Nat)(v:List ak)(o:List Pl)(m:Nat)(i:Int)(b:Bool)(k:Int):S:=⟨62,[(0,.sl 0 0 n),(1,cF v),(5,.sl 1 0 m),(6,iD i),(7,.d (.bool b)),(8,iD k)],Ph 0 z l++Ph 1 C o⟩
def RB l (v:List ak)(p q:Pl):=decide (q.1∈v)&&mN l q.1&&within l q.1 p.1
def qnc:S->K (PX×S):=λs E=> ∃z l v o m i b,s=skI z l (J l) v o m i b 0/\(J l<=1000000/\J v<=1000000/\0<=i/\i<J l)/\
 ∀A h,h=(b ||l.any (RB l v (l.getD i.toNat ti)))->E (.exit 2,⟨62,[(0,.sl 0 0 (J l)),(1,cF v),(5,.sl 1 0 m),(6,iD i),(7,.d (.bool h))],Ph 0 A l++Ph 1 C o⟩)
def Z7D l:=(0,we 0 Y (AS (108:I) O (fI l)))
def D8 b:=(7,iF b)
def RC o:=[(1,Ur o)]
def Pj z h:=(0,we 0 Y (AS (108:I) z (fI h)))
def Z7z m:=(5,If 1 0 m)
theorem qnd z l n v o m i b k E:(bif Df k n then ob (jA k n) (ob (Jf k l) (ob (qG l k) (∃G x,gC v::XW l k=gC G::gW x/\Zn/\ll G/\bif decide (x∈G) then ob (jA k n) (ob (Jf k l) (ob (qG l k) (∃F x,Cs (IM 8 (ab n (fI l)))::XW l k=jP F::gW x/\Zn/\iB F/\ ∀B,B=mN F x->bif B then ob (jA k n) (ob (Jf k l) (ob (qG l k) (ob (jA i n) (ob (Jf i l) (ob (qG l i) (∃z h x y,ZM n::Z2f l k::XW l i=qQ h::Cs (fe x)::gW y/\[(0,we 0 (Z 0) (AS (108:I) O (fI l)))]=Je z h/\iB h/\ ∀A,A=within h x y->bif A then ob (Zv k) (E (xz,AD 62 (qP n::nt v::Z7z m::ZQ i::(7,ZT)::vY k) (Pj z h::RC o))) else ob (Zv k) (E (xz,AD 62 (qP n::nt v::Z7z m::ZQ i::D8 b::vY k) (Pj z h::RC o))))))))) else ob (Zv k) (E (xz,AD 62 (qP n::nt v::Z7z m::ZQ i::D8 b::vY k) (Z7D l::RC o)))))) else ob (Zv k) (E (xz,AD 62 (qP n::nt v::Z7z m::ZQ i::D8 b::vY k) (Pj z l::RC o)))))) else E (CE 2,AD 62 [qP n,nt v,Z7z m,ZQ i,D8 b] (Pj z l::RC o)))=(aG [(101,qiT),(144,qm4),(96,qm1)] [] 99 8 (skI z l n v o m i b k)) E:=by kernel_rfl
theorem qne z l n v o m i E:(bif Df i n then∃Q h F G B A b,AD 62 (qP n::nt v::Z7z m::ZQ i::(7,Cs Z2)::Fy) (Pj z l::RC o)=AD 62 (Jg h::nt F::Z7z B::ZQ A::D8 b::Fy) (Pj Q h::RC G)/\(iB h/\ll F/\(0:Int)<=A/\A<qa h)/\ ∀H L,L=(b ||List.any h (RB h F (List.getD h (Zs A) ti)))->bif L then ob (decide ((0:Int)<=A/\A<qa h)) (ob (Jf A h) (ob (qG h A) (ob (gr B (sf G)&&aB (Z7h B h A) 72) (ob (Zv A) (E (xz,AD 62 (Jg h::nt F::(5,If 1 0 (Z7h B h A))::ZL A) [Pj H h,(1,Z7j B G h A)])))))) else ob (Zv A) (E (xz,AD 62 (Jg h::nt F::Z7z B::ZL A) (Pj H h::RC G))) else E (CE 0,AD 62 [ZN m] (wb o)))=(aG [] [(8,ah (aV 99 8) qnc)] 99 4 (skH z l n v o m i)) E:=by kernel_rfl
def qnf:S->K (PX×S):=λs E=> ∃l v,s=skH C (il l) (J (il l)) v [] 0 0/\(J l<=1000000/\J v<=1000000)/\E (.exit 0,⟨62,[(5,.sl 0 0 (J (bM (il l) v)))],Ph 0 C (bM (il l) v)⟩)
def Z7H l h:=(0,we 0 Y (AS (108:I) C (aa bI (bM (il l) h))))
def Pk:=[(6,Cs Z5)]
def Af:=If 1 0 0
def Z7G l h:=AD 62 ((0,If 0 0 (J (il l)))::nt h::(5,Af)::Pk) [Z7r l,(1,Dj)]
theorem qrQ l v E:(∃A,[jP l]=[jP A]/\Zn/\iB A/\ ∃l h,Z7G A v=Z7G l h/\(iB l/\ll h)/\E (If 0 0 (J (bM (il l) h)),[Z7H l h]))=(aO [(143,hRi)] [(4,ah (aV 99 4) qnf)] 99 [ew l,cF v] []) E:=by kernel_rfl
def Y6:bc:=λps R E=> ∃l v,ps=[ew l,cF v]/\R=[]/\(J l<=1000000/\J v<=1000000)/\E (.sl 0 0 (J (bM (il l) v)),Ph 0 C (bM (il l) v))
abbrev imH(z:Bool)(l:List Pl)(n:Nat)(v:List ak)(o:List It)(m:Nat)(i:Int):S:=⟨77,[(1,cF v),(5,.sl 0 0 n),(6,.sl 1 0 m),(7,iD i)],Ph 0 z l++qec 1 o⟩
abbrev imI(z:Bool)(l:List Pl)(n:Nat)(v:List ak)(L:List D)(m:Nat)(i k:Int):S:=⟨77,[(1,cF v),(5,.sl 0 0 n),(6,.sl 1 0 m),(7,iD i),(9,iD k)],Ph 0 z l++[(1,⟨0,Y,.arr 66 C L⟩)]⟩
abbrev imJ(z:Bool)(l:List Pl)(n:Nat)(v:List ak)(L:List D)(m:Nat)(i:Int):S:=⟨77,[(1,cF v),(5,.sl 0 0 n),(6,.sl 1 0 m),(7,iD i)],Ph 0 z l++[(1,⟨0,Y,.arr 66 C L⟩)]⟩
def qng:S->K (PX×S):=λs E=> ∃z l n v,∃o,∃L m i k,s=imI z l n v L m i k/\L=o.map fV/\((0<=k/\k<m)/\m<=1000001/\J o=m)/\ ∀h,J h=m->E (.exit 2,imJ z l n v (h.map fV) m i)
def Z7X z l L:=[Pj z l,(1,we 0 Y (AS (66:I) C L))]
def nT L k:=BC L (Zs k)
def RD L k:=ue DD (AC (vc (nT L k) 2))
def H8 L k:=ue DD (AC (vc (nT L k) 1))
def H9 L k:=ue DD (AC (vc (nT L k) 0))
def Z7P L k:=[H9 L k,H8 L k,RD L k,FS (Q1 (vc (nT L k) 3)),ID (Q3 (vc (nT L k) 4)),ID (Q3 (vc (nT L k) 5))]
def Z7W k:=[(9,ZG k)]
def Ia m:=(6,If 1 0 m)
def Vo L k:=ue DD (AC (vc (Zb L k) 2))
def Nj L k:=ue DD (AC (vc (Zb L k) 1))
def Nk L k:=ue DD (AC (vc (Zb L k) 0))
def Z7T L k:=tz L (Zs k) (D.aY (AM (Z7P L k)) [Nk L k,Nj L k,Vo L k,FS (Q1 (vc (Zb L k) 3)),ID (Q3 (vc (Zb L k) 4)),ID (Q3 (vc (Zb L k) 5))])
def Z7U L k:=BC (Z7T L k) (Za k)
def D9 k (L:List D):=decide (Za k<J L)
def wR k (m:Nat):=decide ((0:Int)<=k-(1:Int)/\k-(1:Int)<(↑m:Int))
def tA k (L:List D):=decide (Zs k<J L)
theorem qnh z l n v L m i k E:(bif ZF k then ob (jA k m) (ob (tA k L) (ob (bE PR (66:I) (nT L k)) (ob (Z9 k) (ob (wR k m) (ob (D9 k L) (ob (bE PR (66:I) (Zb L k)) (bif IT (Q1 (vc (nT L k) 3)) (Q1 (vc (Zb L k) 3)) then ob (Z9 k) (ob (Z9 k) (ob (wR k m) (ob (D9 k L) (ob (bE PR (66:I) (Zb L k)) (ob (jA k m) (ob (tA k L) (ob (bE PR (66:I) (nT L k)) (ob (jA k m) (ob (tA k L) (ob (bE PR (66:I) (nT L k)) (ob (wR k m) (ob (decide (Za k<J (Z7T L k))) (ob (bE PR (66:I) (Z7U L k)) (ob (Z9 k) (E (xz,AD 77 (nt v::ZN n::Ia m::sq i::Z7W k) [Pj z l,(1,we 0 Y (AS (66:I) C (tz (Z7T L k) (Za k) (D.aY (AM [ue DD (AC (vc (Z7U L k) 0)),ue DD (AC (vc (Z7U L k) 1)),ue DD (AC (vc (Z7U L k) 2)),FS (Q1 (vc (Z7U L k) 3)),ID (Q3 (vc (Z7U L k) 4)),ID (Q3 (vc (Z7U L k) 5))]) (Z7P L k)))))])))))))))))))))) else E (CE 2,AD 77 [nt v,ZN n,Ia m,sq i] (Z7X z l L))))))))) else E (CE 2,AD 77 [nt v,ZN n,Ia m,sq i] (Z7X z l L)))=(aG [] [] 57 9 (imI z l n v L m i k)) E:=by kernel_rfl
def Z81 h:=we 0 Y (AS (66:I) C (aa fV h))
def RE k (h:Nat):=(0:Int)<=k/\k<(↑h:Int)
def Z7Z k:=[(9,Zl k)]
def Z7Y l i s (h:List ak) x:=[AM [HP l i,Ln l i,Lm l i,FS s,ID (Q3 (vc (ln l i) 7)),ID !decide (x∈h)]]
theorem qni z l n v o (m:Nat) i E:(bif Df i n then ob (jA i n) (ob (Jf i l) (ob (qG l i) (∃T V p,[Cs (IM 8 (ab n (fI l))),Cs (AM (Pd l i))]=[Cs (IM 8 (aa bI (bM T V))),Vm p]/\Zn/\(O2 T/\Rt T/\p∈bM T V)/\ ∀s,∃h x,gC v::XW l i=gC h::gW x/\Zn/\ll h/\ob (gr m (J (aa fV o))&&aB (m+J (Z7Y l i s h x)) 48) (ob (decide (Z7<=(↑(m+J (Z7Y l i s h x)):Int)-(1:Int)/\(↑(m+J (Z7Y l i s h x)):Int)-(1:Int)<=Z8)) (∃z G H Q R L A B k,AD 77 [nt v,ZN n,(6,If 1 0 (m+J (Z7Y l i s h x))),sq i,(9,Cs (ue DD ((↑(m+J (Z7Y l i s h x)):Int)-(1:Int))))] [Z7D l,(1,we 0 Y (AS (66:I) C (ab m (aa fV o)++Z7Y l i s h x)))]=AD 77 (nt Q::ZN H::Ia A::sq B::Z7Z k) (Z7X z G L)/\L=aa fV R/\(RE k A/\A<=1000001/\J R=A)/\ ∀F,J F=A->ob (Zv B) (E (xz,AD 77 (nt Q::ZN H::Ia A::ZR B) [Pj z G,(1,Z81 F)]))))))) else E (CE 0,AD 77 [(6,ZM m)] [(0,Z81 o)]))=(aG [(100,hPa),(101,qiT)] [(9,ah (aV 57 9) qng)] 57 4 (imH z l n v o m i)) E:=by kernel_rfl
def qnj:S->K (PX×S):=λs E=> ∃T v,s=imH C (bM T v) (J (bM T v)) v [] 0 0/\(J T<=1000/\Rt T/\J v<=1000000)/\ ∀o,J o<=1000->E (.exit 0,⟨77,[(6,.sl 0 0 (J o))],qec 0 o⟩)
def Z82:=(6,Af)::xD
theorem qrR l v E:(∃B A,[jP l,gC v]=[jP B,gC A]/\Zn/\(iB B/\ll A)/\ ∃T h,AD 77 (nt v::(5,If 0 0 (J (bM (il B) A)))::Z82) [Z7H B A,(1,Yk)]=AD 77 (nt h::(5,If 0 0 (J (bM T h)))::Z82) [(0,we 0 Y (AS (108:I) C (aa bI (bM T h)))),(1,Yk)]/\(O2 T/\Rt T/\ll h)/\ ∀o,J o<=1000->E (If 0 0 (J o),[(0,Z81 o)]))=(aO [(99,Y6)] [(4,ah (aV 57 4) qnj)] 57 [ew l,cF v] []) E:=by kernel_rfl
def RG:bc:=λps R E=> ∃l v,ps=[ew l,cF v]/\R=[]/\(J l<=1000/\J v<=1000000)/\ ∀o,J o<=1000->E (.sl 0 0 (J o),qec 0 o)
theorem qed{T}(l:Rt T):bp T aJ=Y:=by
 cases h:bp T aJ with
 |none=>rfl
 |some p=>obtain⟨B,A⟩:=cw h;have:=l.2 p B;simp[oC,A,bt] at this
theorem Pm{T V}(l:Rt T){p}(B:p∈T):T.any (RB T V p)=marked T V p.1:=by
 have F:p.1≠aJ:=λe=>by have:=l.2 p B;simp[oC,e,bt] at this
 have L: ∀{x w},Up T x w->within T x p.1=decide (p.1∈w):=λ{x w} h=>OX h F (qed l) _ (by have:=h.len;omega);rw[zbf,zcJ,iC];constructor
 ·grind [RB,B6]
 rintro⟨x,hx,w,zO,hm⟩;obtain⟨q,A⟩:=zO.at;obtain⟨H,G⟩:=cw A;grind [RB,B6]
theorem Uu{α:Type}(f:α->Bool) l d {k}(h:k<J l):(l.take (k+1)).any f=((l.take k).any f ||f (l.getD k d)):=by rw[zbG,getD_some h d];simp
theorem Ib{α:Type}(f:α->Bool) l d {k}(h:k<J l):(l.take (k+1)).filter f=(l.take k).filter f++(if f (l.getD k d) then [l.getD k d] else []):=by rw[zbG,getD_some h d,zcf];grind
section
variable{X:XF}
theorem qee:LD X 99 8 (ah (aV 99 8) qnc):=LD.par (.cons qgr (.cons qna (.cons qgx .nil))) .nil
 (A:=List Pl×List ak×List Pl×Nat×Int×Bool) (B:=Bool×Bool×Int) (λ⟨l,v,o,m,i,_⟩ ⟨z,b,k⟩=>skI z l (J l) v o m i b k)
 (λ⟨l,v,_,_,i,V⟩ ⟨_,b,k⟩=>J l<=1000000/\J v<=1000000/\0<=i/\i<J l/\0<=k/\k<=J l/\b=(V || (l.take k.toNat).any (RB l v (l.getD i.toNat ti))))
 (λ⟨l,_⟩ ⟨_,_,k⟩=>(J l-k).toNat)
 (λ⟨l,v,o,m,i,V⟩ x=> ∃L H,H=(V ||l.any (RB l v (l.getD i.toNat ti)))/\x=(.exit 2,⟨62,[(0,.sl 0 0 (J l)),(1,cF v),(5,.sl 1 0 m),(6,iD i),(7,.d (.bool H))],Ph 0 L l++Ph 1 C o⟩))
 (by
  rintro⟨l,v,o,m,i,V⟩ ⟨z,b,k⟩ ⟨U,hv,zl,hi,h0,hk,hb⟩;dsimp only at*
  (rw[<-qnd];delta fI Z7D iF D8 Ur RC Pj Zz ZA vY ZT Zj Zl ZQ Z7z eM gC nt ZM qP Z8 Z7 Zv T4 Je fO gA gD fP fQ fe fp qQ Zs ln Lm Ln HP Z2f iB jP dK ll Zn gW XW qG sf Jf jA Df)
  refine bj (λh=> ?_) λh=> ?_
  ·have eb:k.toNat<J l:=by omega
   have bB:i.toNat<J l:=by omega
   have Q:=Uu (RB l v (l.getD i.toNat ti)) l ti eb;rw[jy eb,jy bB];generalize l.getD k.toNat ti=q at Q;generalize l.getD i.toNat ti=p at Q hb;have F:decide ((-9223372036854775808:Int)<=k+(1:Int)/\k+(1:Int)<=(9223372036854775807:Int))=O:=j9 (by omega) (by omega);have go: ∀L H,H=(b ||RB l v p q)-> ∃m',m'<((J l:Int)-k).toNat/\ ∃G:Bool×Bool×Int,(skI L l (J l) v o m i H (k+1):S)=skI G.1 l (J l) v o m i G.2.1 G.2.2/\
     (J l<=1000000/\J v<=1000000/\0<=i/\i<J l/\0<=G.2.2/\G.2.2<=J l/\G.2.1=(V || (l.take G.2.2.toNat).any (RB l v p)))/\m'=((J l:Int)-G.2.2).toNat:=λL H db=>⟨((J l:Int)-(k+1)).toNat,by omega,(L,H,k+1),rfl,⟨U,hv,zl,hi,by simp only;omega,by simp only;omega,by simp only;rw[show(k+1).toNat=k.toNat+1 by omega,Q,db,hb,zdp]⟩,rfl⟩
   have dl:decide (k.toNat<J (l.map bI))=O:=o9 (by rw[zaa];exact eb);have di:decide (i.toNat<J (l.map bI))=O:=o9 (by rw[zaa];exact bB);refine bu ⟨h0,h⟩ (ao dl (ao (fJ q) ⟨v,q.1,rfl,rfl,hv,az (λR=>bu ⟨h0,h⟩ (ao dl (ao (fJ q) ⟨l,q.1,by rw[Ae];rfl,rfl,U,λb1 r7=>az (λh2=>bu ⟨h0,h⟩ (ao dl (ao (fJ q) (bu ⟨zl,hi⟩ (ao di (ao (fJ p) ⟨O,l,q.1,p.1,rfl,rfl,U,λG kN=>az (λh3=>ao F (go _ _ ?_)) λh3=>ao F (go _ _ ?_)⟩)))))) λh2=>ao F (go _ _ ?_)⟩))) λR=>ao F (go _ _ ?_)⟩))
   ·unfold RB;rw[R,<-r7,h2,<-kN,h3];simp
   ·unfold RB;rw[R,<-r7,h2,<-kN,h3];simp
   ·unfold RB;rw[R,<-r7,h2];simp
   unfold RB;rw[R];simp
  refine⟨z,b,?_,rfl⟩;rw[hb,zak (by omega)])
 (by rintro s E ⟨z,l,v,o,m,i,b,rfl,⟨U,hv,zl,hi⟩,hp⟩;refine⟨(l,v,o,m,i,b),(z,b,0),rfl,⟨U,hv,zl,hi,by simp,by simp,by simp⟩,?_⟩;rintro x ⟨L,H,R,rfl⟩;exact hp L H R)
theorem qef:LD X 99 4 (ah (aV 99 4) qnf):=LD.par .nil (.cons qee .nil)
 (A:=List Pl×List ak) (B:=Bool×Int) (λa b=>skH b.1 a.1 (J a.1) a.2 ((a.1.take b.2.toNat).filter λp=>marked a.1 a.2 p.1) (J ((a.1.take b.2.toNat).filter λp=>marked a.1 a.2 p.1)) b.2)
 (λa b=>J a.1<=1000000/\J a.2<=1000000/\Rt a.1/\0<=b.2/\b.2<=J a.1)
 (λa b=>(J a.1-b.2).toNat)
 (λa x=>x=(.exit 0,⟨62,[(5,.sl 0 0 (J (bM a.1 a.2)))],Ph 0 C (bM a.1 a.2)⟩))
 (by
  rintro⟨l,v⟩ ⟨z,i⟩ ⟨V,Q,hT,h0,hi⟩;dsimp only at*
  (rw[<-qne];delta fI Ur wb ZM ZN Zs ln Lm Ln HP Pd Z7j Zz ZA ZL Z8 Z7 Zv Z7h sf qG Jf fp qa dK ll iB iF D8 qQ Jg RC Pj Z5 Fy Z2 Zj Zl ZQ Z7z eM gC nt qP Df)
  refine bj (λh=> ?_) λh=> ?_
  ·have U:i.toNat<J l:=by omega
   have H:=Ib (λp:Pl=>marked l v p.1) l ti U;have Js:l.getD i.toNat ti∈l:=zas (getD_some U ti);have Dy:J ((l.take i.toNat).filter λp=>marked l v p.1)<=J l:=zaJ (zaQ _ _) (by rw[zaG];omega);refine⟨z,l,v,_,_,i,C,rfl,⟨V,Q,h0,h⟩,λz' b' R=> ?_⟩;rw[Pm hT Js] at R;rw[jy U];generalize l.getD i.toNat ti=p at H R;generalize hoo:((l.take i.toNat).filter λp=>marked l v p.1)=o at H Dy;have G:decide ((-9223372036854775808:Int)<=i+(1:Int)/\i+(1:Int)<=(9223372036854775807:Int))=O:=j9 (by omega) (by omega);have go: ∀L,((l.take (i+1).toNat).filter λp=>marked l v p.1)=L-> ∃m',m'<((J l:Int)-i).toNat/\ ∃F:Bool×Int,(skH z' l (J l) v L (J L) (i+1):S)=skH F.1 l (J l) v ((l.take F.2.toNat).filter λp=>marked l v p.1) (J ((l.take F.2.toNat).filter λp=>marked l v p.1)) F.2/\
     (J l<=1000000/\J v<=1000000/\Rt l/\0<=F.2/\F.2<=J l)/\m'=((J l:Int)-F.2).toNat:=λL nk=>⟨((J l:Int)-(i+1)).toNat,by omega,(z',i+1),by simp only;rw[nk],⟨V,Q,hT,by simp only;omega,by simp only;omega⟩,rfl⟩
   have hs:(i+1).toNat=i.toNat+1:=by omega
   refine az (λhb=>bu ⟨h0,h⟩ (ao (o9 (by rw[zaa];exact U)) (ao (fJ p) (ao ?_ (ao G ?_))))) λhb=>ao G ?_
   ·simp[aB];omega
   ·have:=go (o++[p]) (by rw[hs,H,zau (by rw[<-hb,R];rfl)]);rw[Ae];have e1:J (o++[p])=J o+1:=by simp
    have e2:(o++[p]).map bI=o.map bI++[bI p]:=by simp
    simp only[skH,Ph,e1,e2] at this;exact this
   exact go o (by
    have:marked l v p.1=C:=by rw[<-hb,R];rfl
    rw[hs,H,this];simp)
  rw[zak (by omega)];rfl)
 (by rintro s E ⟨l,v,rfl,⟨V,Q⟩,hp⟩;have htl:=vR l;refine⟨(il l,v),(C,0),rfl,⟨by simp only;omega,Q,OZ l,by simp,by simp⟩,?_⟩;rintro x rfl;exact hp)
theorem Y7:FD X 99 Y6:=IN (.cons qrO .nil) (.cons qef .nil) (by
 intro ps R E F;obtain⟨l,v,rfl,rfl,⟨h,A⟩,B⟩:=F
 (rw[<-qrQ];delta Z7H dK ll Dj Z7r Z5 Pk Af eM gC nt Z7G fp iB Zn fI jP)
 exact⟨l,rfl,rfl,h,l,v,rfl,⟨h,A⟩,B⟩)
theorem qeg:LD X 57 9 (ah (aV 57 9) qng):=LD.sw .nil .nil
 (A:=Bool×List Pl×Nat×List ak×Nat×Int) fV (λa L k=>imI a.1 a.2.1 a.2.2.1 a.2.2.2.1 L a.2.2.2.2.1 a.2.2.2.2.2 k) (λa=>a.2.2.2.2.1) 2 (λa L=>imJ a.1 a.2.1 a.2.2.1 a.2.2.2.1 L a.2.2.2.2.1 a.2.2.2.2.2)
 (by
  rintro⟨z,l,n,v,m,i⟩ o k E hk hN ho hex Pn;dsimp only at*
  (rw[<-qnh];delta fI Pj Z7X Zs nT RD H8 H9 Z7P ZG Z7W Zj Zl sq Ia ZM ZN eM gC nt Za Zb Vo Nj Nk Z7T Z7U D9 wR Z8 Z7 Z9 tA jA ZF)
  refine b8 (λh=> ?_) λ_=>hex;obtain⟨x,y,e1,R,Q,B⟩:=Pn h;rw[e1,R];simp only[Q,zaa,zbi,ho]
  repeat' first |exact hex |exact B |refine ar (by omega) ?_ |refine ao (qrE _) ?_ |refine az (λ_=> ?_) λ_=>hex)
 (by rintro s E ⟨z,l,n,v,o,L,m,i,k,rfl,rfl,⟨H,G,F⟩,h⟩;exact⟨(z,l,n,v,m,i),o,k,rfl,H,G,F,h⟩)
theorem qeh:LD X 57 4 (ah (aV 57 4) qnj):=LD.wk (.cons qrP (.cons qgr .nil)) (.cons qeg .nil)
 (A:=List Pl×List ak) (B:=Bool×List It) (λa b i=>imH b.1 (bM a.1 a.2) (J (bM a.1 a.2)) a.2 b.2 (J b.2) i) (λa=>J (bM a.1 a.2))
 (λa i b=>(J a.1<=1000/\Rt a.1/\J a.2<=1000000)/\J b.2=i)
 (λ_ x=> ∃o:List It,J o<=1000/\x=(.exit 0,⟨77,[(6,.sl 0 0 (J o))],qec 0 o⟩))
 (by
  rintro⟨T,v⟩ ⟨z,o⟩ i E h0 hi ⟨l,G⟩ hn bF;dsimp only at*
  have U:J (bM T v)<=J T:=zaQ _ _
  (rw[<-qni];delta ZM Z81 fI Pj Zz ZA ZR Z8 Z7 Zv RE Z7X Zj Zl Z7Z Ia Z7D sq ZN eM gC nt Zs ln Lm Ln HP Z7Y dK ll fO gA gD fP fQ fe gW Z2f XW fp O2 Zn Nf Uk Ul Um Uh Ui Uj Vm Pd qG sf Jf jA Df)
  simp only[zaa,zav,zaI,zaE];refine bj (λH=> ?_) λ_=>bF _ _ (λh=>by cases h) ⟨o,by omega,rfl⟩;have F:i.toNat<J (bM T v):=by omega
  have L:(bM T v).getD i.toNat ti∈bM T v:=zas (getD_some F ti);rw[jy F];generalize (bM T v).getD i.toNat ti=p at L;refine bu ⟨h0,H⟩ (ao (o9 F) (ao (fJ p) ⟨T,v,p,by rw[Ae];rfl,rfl,⟨l.1,l.2.1,L⟩,λs=>⟨v,p.1,rfl,rfl,l.2.2,ao ?_ (bu (by omega) ⟨O,bM T v,_,v,o++[(p.1,s,p.2.2.2,!decide (p.1∈v))],_,J o+1,i,_,rfl,bx fV o (p.1,s,p.2.2.2,!decide (p.1∈v)),⟨⟨by omega,by omega⟩,by omega,by simp⟩,λQ R=>bu (by omega) ?_⟩)⟩⟩))
  ·simp[aB];omega
  rw[<-R];exact hn (O,Q) H ⟨l,by simp only;omega⟩)
 (by rintro s E ⟨T,v,rfl,l,V⟩;refine⟨(T,v),(C,[]),rfl,⟨l,by simp⟩,?_⟩;rintro e s ⟨o,G,h⟩;cases h;exact V o G)
theorem Y8:FD X 57 RG:=IN (.cons Y7 .nil) (.cons qeh .nil) (by
 intro ps R E F;obtain⟨l,v,rfl,rfl,⟨G,h⟩,B⟩:=F
 (rw[<-qrR];delta Z81 fp O2 Yk Z7H Z5 xD Af Z82 eM gC nt dK ll iB Zn fI jP)
 have A:=vR l;exact⟨l,v,rfl,rfl,⟨by omega,h⟩,il l,v,rfl,⟨by omega,OZ l,h⟩,B⟩)
end
abbrev Td:=ak×Pl
def ltT(a b:Td):=kr a.1 b.1
def ltN(a b:Pl):=kr a.1 b.1
def Ic o t:=if(o.any λx=>x.1==t.1)=O then o else fU ltT o t
def tdL(a:List ak) p:=(a.zip p).foldl Ic []
def Jt o (t:Td):=
 if t.2.1=aJ\/within o t.2.2.1 t.2.1=O then o
 else if 0<=eJ o t.2.1 then o.set (eJ o t.2.1).toNat (t.2.1,t.2.2.1,t.2.2.2.1,(o.getD (eJ o t.2.1).toNat ti).2.2.2) else fU ltN o t.2
def Ag(l:List Td):=l.foldl Jt []
def Y9(gone:List aT) o d:=if d∈gone\/d.1∈o then o else fU kr o d.1
def lvX(h gone:List aT):=h.foldl (Y9 gone) []
theorem qei o t:J (Ic o t)<=J o+1:=by
 unfold Ic;split
 ·omega
 rw[(iV _ _).length_eq];simp
theorem Ie: ∀l o,J (l.foldl Ic o)<=J o+J l
 | [],_=>by simp
 |x::r,o=>by have:=Ie r (Ic o x);have:=qei o x;grind
theorem qej a p:J (tdL a p)<=J a:=by have:=Ie (a.zip p) [];grind [tdL]
theorem qek o t:J (Jt o t)<=J o+1:=by
 unfold Jt;split
 ·omega
 split
 ·simp
 rw[(iV _ _).length_eq];simp
theorem RH: ∀l o,J (l.foldl Jt o)<=J o+J l
 | [],_=>by simp
 |x::r,o=>by have:=RH r (Jt o x);have:=qek o x;grind
theorem Ah l:J (Ag l)<=J l:=by simpa [Ag] using RH l []
theorem qel g o d:J (Y9 g o d)<=J o+1:=by
 unfold Y9;split
 ·omega
 rw[(iV _ _).length_eq];simp
def Cv{α β:Type}(g:FuncId)(ty:I)(enc:α->D)(h:α->β)(lt:β->β->Bool):bc:=λps R E=> ∃l:List α,ps=[.sl 0 0 (J l),.fn g []]/\R=[(0,⟨0,Z 0,.arr ty C (l.map enc)⟩)]/\J l<=1000000/\
 ∀A:List α,A.Perm l->A.Pairwise (λa b=>lt (h b) (h a)=C)->E (.cy [],[(0,⟨0,Z 0,.arr ty C (A.map enc)⟩)])
theorem qjg{α β:Type} f (g:β->α)(F: ∀x,g (f x)=x){l A}(h:A.Perm (l.map f)): ∃B:List α,A=B.map f/\B.Perm l:=by
 refine⟨A.map g,?_,?_⟩
 ·rw[zbr];refine(zci A).symm.trans (zaY λb G=> ?_);grind
 have:=h.map g;rw[zbr] at this;rwa [show(g∘f)=id from funext F,zci] at this
theorem Ai{X}{f g:FuncId}{ty}{α β:Type}{enc}{dec:D->α}{h:α->β}{lt}{c:α->α->Int}(U: ∀cf,FD X f (um g cf ty))(A: ∀x,dec (enc x)=x)(H:Lq lt)
  (hc: ∀x y,c x y<0↔lt (h x) (h y)=O) (MX: ∀x,∃cs,enc x= .agg cs) (hfc: ∀x y,DQ PR oB g (enc x) (enc y) (c x y)) (fj: ∃fn,PR.funcs[g]?=Z fn/\fn.body.isSome=O/\(fn.name== "runtime.NumGoroutine")=C):
  FD X f (Cv g ty enc h lt):=by
 intro ps R E V;obtain⟨l,rfl,rfl,hl,hp⟩:=V;have B: ∀x y,c (dec (enc x)) (dec (enc y))<0↔lt (h x) (h y)=O:=λx y=>by rw[A,A];exact hc x y
 refine U (λa b=>c (dec a) (dec b)) _ _ E ⟨l.map enc,by rw[zaa],rfl,?_,λdP L Q=> ?_⟩
 ·exact {
   fn:=fj
   ag:=λd hd=>by obtain⟨x,_,rfl⟩:=zal.1 hd;exact MX x
   len:=by simp;omega
   run:=λa F b G=>by grind
   KE:=λa F=>by obtain⟨x,_,rfl⟩:=zal.1 F;rw[B,H.KE];simp
   tr:=λa F b G d hd=>by obtain⟨x,_,rfl⟩:=zal.1 F;obtain⟨y,_,rfl⟩:=zal.1 G;obtain⟨z,_,rfl⟩:=zal.1 hd;rw[B,B,B];exact H.tr _ _ _
   ntr:=λa F b G d hd=>by obtain⟨x,_,rfl⟩:=zal.1 F;obtain⟨y,_,rfl⟩:=zal.1 G;obtain⟨z,_,rfl⟩:=zal.1 hd;rw[B,B,B];intro L Q;simpa using H.ntr (by simpa using L) (by grind)}
 obtain⟨l2,rfl,h3⟩:=qjg enc dec A L;rw[za1] at Q;simp_all
def cM(U:List aN)(d:D):=match d with
 | .agg [.int DD a,.int DD b]=>if U.count (a,b)=0 then Y else Z (iE (U.count (a,b):Int))
 |_=>Y
theorem qgy U x:cM U (bX x)=if U.count x=0 then Y else Z (iE (U.count x:Int)):=rfl
theorem Ig:cM []=λ_=>Y:=by funext d;unfold cM;grind
theorem rU U x:aK (cM U (bX x)) (iE 0)=iE (U.count x:Int):=by
 rw[qgy];split
 next h=>rw[h];rfl
 rfl
theorem RI U x:aW (bX x) (iE ((U.count x:Int)+1)) (cM U)=cM (x::U):=by
 funext d;unfold aW;cases hd:NO (bX x) d with
 |true=>have:=(D.bU _ _).1 hd;grind [qgy]
 |false=>
  have h:bX x≠d:=λe=>by rw[(D.bU _ _).2 e] at hd;cases hd
  simp only[zbE];unfold cM;split
  next a b=>have:x≠(a,b):=λe=>h (by rw[e];rfl);rw[zcQ this]
  rfl
theorem Ih U x z:(λh=>bif NO (bX x) h then Z (iE ((U.count x:Int)+1)) else aW (bX x) z (cM U) h)=cM (x::U):=by rw[<-RI];funext d;unfold aW;cases NO (bX x) d<;>rfl
theorem qem k v f:aW k v f k=Z v:=by grind [aW,D.bU]
theorem Uv k v z f:aK (aW k v f k) z=v:=by rw[qem];rfl
theorem FG k v u f:aW k v (aW k u f)=aW k v f:=by funext d;unfold aW;cases NO k d<;>rfl
theorem RJ U x z:aW (bX x) (.int DD ((U.count x:Int)+1)) (aW (bX x) z (cM U))=cM (x::U):=by rw[FG];exact RI U x
def cI(U:List ak)(d:D):=match d with
 | .agg [.int DD a,.int DD b,.int DD c]=>if U.count (a,b,c)=0 then Y else Z (iE (U.count (a,b,c):Int))
 |_=>Y
theorem qgz U x:cI U (aF x)=if U.count x=0 then Y else Z (iE (U.count x:Int)):=rfl
theorem Po:cI []=λ_=>Y:=by
 funext d;unfold cI;split
 ·simp
 rfl
theorem Cw U x:aK (cI U (aF x)) (iE 0)=iE (U.count x:Int):=by
 rw[qgz];split
 next h=>rw[h];rfl
 rfl
theorem Ii U x:aW (aF x) (iE ((U.count x:Int)+1)) (cI U)=cI (x::U):=by
 funext d;unfold aW;cases hd:NO (aF x) d with
 |true=>have:=(D.bU _ _).1 hd;subst this;simp only[zcA];rw[qgz,zb1,zat (by omega)];simp
 |false=>
  have h:aF x≠d:=λe=>by rw[(D.bU _ _).2 e] at hd;cases hd
  simp only[zbE];unfold cI;split
  next a b c=>have:x≠(a,b,c):=λe=>h (by rw[e];rfl);rw[zcQ this]
  rfl
theorem Pp U x z:(λh=>bif NO (aF x) h then Z (iE ((U.count x:Int)+1)) else aW (aF x) z (cI U) h)=cI (x::U):=by rw[<-Ii];funext d;unfold aW;cases NO (aF x) d<;>rfl
theorem qen U x z:aW (aF x) (.int DD ((U.count x:Int)+1)) (aW (aF x) z (cI U))=cI (x::U):=by rw[FG];exact Ii U x
def Z86 h:=Cs (ID (decide ((↑(Ab h):Int)<=(200:Int))))
def gX(h:List aN):=J h
def Z83:=[(9,Cs Z5)]
def Z84 h A l:=AD 45 (fq::Pb h::(7,H2 h)::(8,Cs (ue DD (↑(Ab h):Int)))::Z83) (jD A l)
theorem qjh g k l E:(∃A B h,Z84 l g k=Z84 h A B/\gX h<=ZJ/\(uu (gX h) (Cc (au.s A) h)=C->O9 E A B)/\(uu (gX h) (Cc (au.s A) h)=O->E (Z86 h,jD A B)))=(aO [] [(2,ah (aV 114 2) qgs)] 114 [.ref 0 0 0,mR l] (yY g k)) E:=by kernel_rfl
def Z87 h A l:=AD 41 (fq::nt h::(7,gC h)::(8,Cs (ue DD (vK h)))::Z83) (jD A l)
theorem qeo g k l E:(∃B A h,Z87 l g k=Z87 h B A/\dK h<=ZJ/\(uu (dK h) (elG (au.s B) A h)=C->O9 E B A)/\(uu (dK h) (elG (au.s B) A h)=O->bif decide (vK h>=(1:Int)) then E (Cs (ID (decide (vK h<=(2000:Int)))),jD B A) else O9 E B A))=(aO [] [(2,ah (aV 116 2) YM)] 116 [.ref 0 0 0,cF l] (yY g k)) E:=by kernel_rfl
def Zc:bc:=λps R E=> ∃g k l,ps=[.ref 0 0 0,mR l]/\R=yY g k/\J l<=9223372036854775807/\ ∀b,b=LF g.s l->E (lG b,yY g k)
def RL:bc:=λps R E=> ∃g k l,ps=[.ref 0 0 0,cF l]/\R=yY g k/\J l<=9223372036854775807/\ ∀b,b=T8 g.s k l->E (lG b,yY g k)
def Ij:bc:=λps R E=> ∃s,ps=[sD s]/\R=[]/\ ∀b,b=cR s->E (lG b,[])
def Z8k o:=[Cs (IM 3 (aa aF (bq.elems o)))]
def Z8i g k n:=[(0,we 0 (Z 0) (GT (136:I) [Cs (oF g),Cs (nC g),uv g,qS g,Cs (qg g),Cs (qf g),qR g,Cs (ue DD (k+n))]))]
def Z8h k n:=decide (Z7<=k+n/\k+n<=Z8)
def Z8j k n (E:P×List (Nat×En)->Prop) g:=ob (Z8h k n) (E (Cs Z2,Z8i g k n))
def Z8f k (E:P×List (Nat×En)->Prop) g:=ob (decide (Z7<=k+(0:Int)/\k+(0:Int)<=Z8)) (E (Cs Z2,[(0,we 0 (Z 0) (GT (136:I) [Cs (oF g),Cs (nC g),uv g,qS g,Cs (qg g),Cs (qf g),qR g,Cs (ue DD (k+(0:Int)))]))]))
def Z8e o g k:=D1 o==ba (au.s g)&&(D0 o==bl (au.s g)&&O)&&(DZ o==k&&O)
def Z8g o:=Cs (AM [LL o,LK o,LJ o])
def Z8c o:=Cs (AM [Ch o,Cg o,Cf o])
def Z8d o:=[cp,Z8c o]
def Z89 h l:=[(0,we 0 (Z 0) (GT (136:I) [Cs (oF h),Cs (nC h),uv h,qS h,Cs (qg h),Cs (qf h),qR h,ZA l]))]
def Z8a o:=[Cs (FS (bq.name o))]
def Z8b o:=Cs (AM [Jq o,Jp o,Jn o])
def Z88 o g k:=ba (bq.node o)==ba (au.s g)&&(ba (bl (bq.node o))==bl (au.s g)&&O)&&(bl (bl (bq.node o))==k&&O)
theorem qnk g k o E:(∃B,Z5T o=Z5T B/\Zn/\ ∀b,b=yX B->bif !b then O9 E g k else bif bq.kind o==(0:Int) then bif Z88 o g k then∃A h x,[cp,Z8b o]=cp::gW x/\jD g k=jD A h/\ ∀b,b=DX (au.s A) h x->bif b then∃s,Z8a o=lH s/\Zn/\ ∀b,b=cR s->ob (Zv h) (E (iF b,Z89 A h)) else ob (Zv h) (E (Cs Z2,Z89 A h)) else ob (Zv k) (E (Cs Z2,Z89 g k)) else bif bq.kind o==(1:Int) then∃A h x,Z8d o=cp::gW x/\jD g k=jD A h/\ ∀b,b=fL (au.s A) h x->bif b then∃g k x,[cp,Z8b o]=cp::gW x/\jD A h=jD g k/\ ∀b,b=DX (au.s g) k x->bif b then∃s,Z8a o=lH s/\Zn/\ ∀b,b=cR s->E (iF b,jD g k) else O9 E g k else O9 E A h else bif bq.kind o==(2:Int) then∃A h x,Z8d o=cp::gW x/\jD g k=jD A h/\ ∀b,b=fL (au.s A) h x->bif b then∃g k l,[cp,Cs (Fs o)]=[cp,H2 l]/\jD A h=jD g k/\gX l<=ZJ/\ ∀b,b=LF (au.s g) l->E (iF b,jD g k) else O9 E A h else bif bq.kind o==(3:Int) then∃s,[Cs (FS (bq.text o))]=lH s/\Zn/\HW s/\(Yv s-> ∃A h x,Z8d o=cp::gW x/\jD g k=jD A h/\ ∀b,b=fL (au.s A) h x->bif b then∃g k x,[cp,Z8g o]=cp::gW x/\jD A h=jD g k/\ ∀b,b=DX (au.s g) k x->bif b then bif Z8e o g k then Z8f k E g else Z8f k E g else Z8f k E g else Z8f h E A)/\(T5 s-> ∀n,n=HX s-> ∃A h x,Z8d o=cp::gW x/\jD g k=jD A h/\ ∀b,b=fL (au.s A) h x->bif b then∃g k x,[cp,Z8g o]=cp::gW x/\jD A h=jD g k/\ ∀b,b=DX (au.s g) k x->bif b then bif Z8e o g k then bif Z0 n then ob (Z8h k n) (E (Cs (ID (decide (n<=(2000:Int)))),Z8i g k n)) else Z8j k n E g else Z8j k n E g else Z8j k n E g else Z8j h n E A) else bif bq.kind o==(4:Int) then∃A h x,Z8d o=cp::gW x/\jD g k=jD A h/\ ∀b,b=fL (au.s A) h x->bif b then∃g k l,cp::Z8k o=[cp,gC l]/\jD A h=jD g k/\dK l<=ZJ/\ ∀b,b=T8 (au.s g) k l->E (iF b,jD g k) else O9 E A h else O9 E g k)=(aO [(109,YD),(113,H0),(111,Rq),(112,Ij),(114,Zc),(116,RL),(115,Rn)] [] 70 [.ref 0 0 0,.d (eX o)] (yY g k)) E:=by kernel_rfl
def SmO(o:bq):=J o.text<=2000000/\J o.cV<=9223372036854775807/\J o.elems<=9223372036854775807
def kOk(k:Int):=0<=k/\k<=1000000000000
def qnl:bc:=λps R E=> ∃g k o,ps=[.ref 0 0 0,.d (eX o)]/\R=yY g k/\(SmO o/\kOk k)/\(Nd g.s k o=Y-> ∀h,E (lG C,yY g h))/\(∀n h,Nd g.s k o=Z n->h=k+n->E (lG O,yY g h))
def Uw(g:au):=(∀o∈g.ops,SmO o)/\J g.ops<=9223372036854775807/\J g.deps<=1000000
def RM:bc:=λps R E=> ∃v,ps=[vD v]/\R=[]/\J v<=1000000/\ ∀b,b=gO v->E (lG b,[])
def qep:bc:=λps R E=> ∃v r,ps=[vD v,iD r]/\R=[]/\J v<=1000000/\ ∀n,n=j8 v r->E (iD n,[])
def Z8m g:=decide (Z7<=au.n g-(1:Int)/\au.n g-(1:Int)<=Z8)
def Vp(v:List Int):=J v<=1000000
theorem qeq g E:(∃s,Ub g=rR s/\Zn/\ ∀b,b=LB s->bif b then bif decide (au.n g>=(1:Int)) then bif decide (au.n g<=(1099511627776:Int)) then∃v,[qS g]=ZY v/\Zn/\Vp v/\ ∀b,b=gO v->bif b then∃v r,[qS g,Cs (nC g)]=Zw v::Zm r/\Zn/\Vp v/\ ∀n,n=j8 v r->ob (Z8m g) (E (Cs (ID (n==au.n g-(1:Int))),[])) else Z3 E else Z3 E else Z3 E else Z3 E)=(aO [(68,O8),(105,RM),(106,qep)] [] 67 [.d (dp g)] []) E:=by kernel_rfl
def ZI:bc:=λps R E=> ∃g,ps=[.d (dp g)]/\R=[]/\Uw g/\ ∀b,b=hdG g->E (lG b,[])
abbrev qrS(g:au)(k:Int):List (Nat×En):=[(0,⟨0,Y,ckB g k⟩)]
abbrev wcH(g:au)(k i:Int):S:=⟨59,[(3,.ref 0 0 0),(48,qiW g.ops),(49,iD (J (g.ops.map eX):Int)),(50,iD i)],qrS g k⟩
def zt g:=(↑(J (aa eX (au.ops g))):Int)
def Z8r:=[(2,Cs (ue DD (80:Int)))]
def lJ g i:=BC (aa eX (au.ops g)) (Zs i)
def Z8E g i:=ue DD (AC (vc (lJ g i) 15))
def Z8D g i:=ue DD (AC (vc (lJ g i) 14))
def Z8C g i:=ue DD (AC (vc (lJ g i) 13))
def Z8B g i:=ue DD (AC (vc (lJ g i) 12))
def Z8A g i:=ue DD (AC (vc (lJ g i) 11))
def Z8z g i:=ue DD (AC (vc (lJ g i) 10))
def Z8y g i:=ue DD (AC (vc (lJ g i) 6))
def Z8x g i:=ue DD (AC (vc (lJ g i) 5))
def Z8w g i:=ue DD (AC (vc (lJ g i) 4))
def Z8v g i:=ue DD (AC (vc (lJ g i) 3))
def Z8u g i:=ue DD (AC (vc (lJ g i) 2))
def Z8t g i:=ue DD (AC (vc (lJ g i) 1))
def Aj g i:=AC (vc (lJ g i) 0)
def Z8F g i:=Cs (AM [ue DD (Aj g i),Z8t g i,Z8u g i,Z8v g i,Z8w g i,Z8x g i,Z8y g i,FS (Q1 (vc (lJ g i) 7)),ID (Q3 (vc (lJ g i) 8)),IM 2 (D.gh (vc (lJ g i) 9)),Z8z g i,Z8A g i,Z8B g i,Z8C g i,Z8D g i,Z8E g i,FS (Q1 (vc (lJ g i) 16)),IM 3 (D.gh (vc (lJ g i) 17))])
def Z4 i g:=decide ((0:Int)<=i/\i<zt g)
def Z8o i g:=decide (i<zt g)
theorem qaa g k i E:(bif Z8o i g then ob (Z4 i g) (ob (bE PR (79:I) (lJ g i)) (∃l h o,[cp,Z8F g i]=cp::Z5T o/\jD g k=jD l h/\(SmO o/\kOk h)/\(Nd (au.s l) h o=Y-> ∀(_:Int),E (Q2,AD 59 Z8r []))/\ ∀n A,Nd (au.s l) h o=Z n->A=h+n->ob (Zv i) (E (xz,AD 59 [eN,(48,qR g),(49,Cs (ue DD (zt g))),(50,ZA i)] [(0,we 0 Y (Ua l A))])))) else E (CE 1,AD 59 [] []))=(aG [(70,qnl)] [] 43 11 (wcH g k i)) E:=by kernel_rfl
def qnm:S->K (PX×S):=λh E=> ∃g,h=wcH g 0 0/\(Uw g/\J g.ops<=200)/\(sP g.s 0 g.ops=C->E (.ret,⟨59,[(2,iD 80)],[]⟩))/\(sP g.s 0 g.ops=O->E (.exit 1,⟨59,[],[]⟩))
def Dk h:=J (au.ops h)
def Z8L h:=AD 59 [eN,(48,qR h),(49,Cs (ue DD (zt h))),(50,Cs Z5)] [(0,we 0 Y (GT (136:I) (Cs (oF h)::Cs (nC h)::uv h::qS h::Cs (qg h)::Cs (qf h)::qR h::QR)))]
def Z8J g:=Cs (AM [qg g,qf g])::Ub g
def Z8K g:=[Cs (AM [qg g,qf g])]
def Z8I g:= !(ba (au.je g)==(0:Int)&&(bl (au.je g)==(0:Int)&&O))
def FH(E:P×List (Nat×En)->Prop):=E (Cs (ue DD (80:Int)),[])
def qK h:=Cs (AM [oF h,nC h,ue DD (au.n h),IM 1 (bL (au.deps h)),qg h,qf h,IM 18 (aa eX (au.ops h))])
theorem qnn g E:(∃l,[qK g]=[qK l]/\Zn/\Uw l/\ ∀b,b=hdG l->bif !b then FH E else bif Z8I g then∃s,Z8K g=rR s/\Zn/\ ∀b,b=LB s->bif !b then FH E else∃a b,Z8J g=wQ a::rR b/\Zn/\ ∀c,T9 a b c->bif Z1 c then FH E else bif decide (zt g>(0:Int)) then FH E else Z6 E else bif decide (zt g<(1:Int)) then FH E else bif decide (zt g>(200:Int)) then FH E else∃h,Z8L g=Z8L h/\(Uw h/\Dk h<=200)/\(sP (au.s h) (0:Int) (au.ops h)=C->FH E)/\(sP (au.s h) (0:Int) (au.ops h)=O->Z6 E))=(aO [(67,ZI),(68,O8),(69,Rp)] [(11,ah (aV 43 11) qnm)] 43 [.d (dp g)] []) E:=by kernel_rfl
def qno:bc:=λps R E=> ∃g,ps=[.d (dp g)]/\R=[]/\Uw g/\ ∀e,e=(if fu g=O then 0 else 80)->E (iD e,[])
section
variable{X:XF}
theorem qer:FD X 114 Zc:=IN .nil (.cons YL .nil) (by
 intro ps R E h;obtain⟨g,k,l,rfl,rfl,B,A⟩:=h
 (rw[<-qjh];delta Zj Zl Zm qR qf qg qS uv nC oF Ua jD Ab Z86 Z2 O9 ZJ gX Z5 Z83 H2 Pb cp fq Z84)
 grind [LF])
theorem qab:FD X 116 RL:=IN .nil (.cons Ue .nil) (by
 intro ps R E F;obtain⟨g,k,l,rfl,rfl,B,A⟩:=F
 (rw[<-qeo];delta Zj Zl Zm qR qf qg qS uv nC oF Ua jD eM oH vK Z2 O9 ZJ dK Z5 Z83 gC nt cp fq Z87)
 simp only[zaa];refine⟨g,k,l,by rfl,B,λh=>A _ ?_,λh=>bj (λG=>A _ ?_) λG=>A _ ?_⟩
 ·rw[T8,h];rfl
 ·rw[T8,h,zcD,zcI];omega
 grind [T8])
theorem qes:FD X 112 Ij:=OR.weaken λps R E h=>by obtain⟨s,rfl,rfl,l⟩:=h;exact⟨s,rfl,rfl,l _ rfl⟩
theorem qac:FD X 186 Ij:=HK.weaken λps R E h=>by obtain⟨s,rfl,rfl,l⟩:=h;exact⟨s,rfl,rfl,l _ rfl⟩
theorem qji:FD X 105 RM:=qmb.weaken λps R E h=>by obtain⟨s,rfl,rfl,l,A⟩:=h;exact⟨s,rfl,rfl,l,A _ rfl⟩
theorem qjj:FD X 140 RM:=qmc.weaken λps R E h=>by obtain⟨s,rfl,rfl,l,A⟩:=h;exact⟨s,rfl,rfl,l,A _ rfl⟩
theorem qnp:FD X 106 qep:=qrw.weaken λps R E h=>by obtain⟨s,r,rfl,rfl,A,l⟩:=h;exact⟨s,r,rfl,rfl,by omega,l _ rfl⟩
theorem qjk:FD X 40 qep:=Lb.weaken λps R E h=>by obtain⟨s,r,rfl,rfl,A,l⟩:=h;exact⟨s,r,rfl,rfl,by omega,l _ rfl⟩
theorem qet:FD X 67 ZI:=IN (.cons YH (.cons qji (.cons qnp .nil))) .nil (by
 intro ps R E V;obtain⟨g,rfl,rfl,L,A⟩:=V
 (rw[<-qeq];delta Z2 Z3 Z8 Z7 Z8m Zj Zl Zm Zw nC Vp ZY qS Zn yZ y5 wQ rR oF LI Ub)
 have h: ∀b,b=(LB g.s&&(decide (g.n>=1)&&(decide (g.n<=1099511627776)&&(gO g.deps&&(j8 g.deps g.s.2==g.n-1)))))->b=hdG g:=λb l=>by rw[l,hdG];grind
 refine⟨g.s,rfl,rfl,λb l=>az (λF=>bj (λB=>bj (λG=>⟨g.deps,rfl,rfl,L.2.2,λc Q=>az (λH=>⟨g.deps,g.s.2,rfl,rfl,L.2.2,λn U=>bu (by omega) (A _ (h _ ?_))⟩) λH=>A _ (h _ ?_)⟩) λG=>A _ (h _ ?_)) λB=>A _ (h _ ?_)) λF=>A _ (h _ ?_)⟩
 ·rw[<-l,F,za6 B,za6 G,<-Q,H,<-U];rfl
 ·rw[<-l,F,za6 B,za6 G,<-Q,H];rfl
 ·rw[<-l,F,za6 B,za7 G];rfl
 ·rw[<-l,F,za7 B];rfl
 grind)
theorem qjl{s k n o}(h:Nd s k o=Z n)(l:J o.text<=2000000):0<=n/\n<=2000000:=by
 have B:=Ce o.text;have A:=HY o.text;unfold Nd at h
 (repeat' split at h)<;>simp at h<;>omega
theorem qnq:FD X 70 qnl:=IN
  (.cons qdZ (.cons H4 (.cons YJ (.cons qes (.cons qer (.cons qab (.cons qiV .nil))))))) .nil (by
 intro ps R E hh;obtain⟨g,k,o,rfl,rfl,⟨H,hk⟩,A,h2⟩:=hh;have C6:0<=k/\k<=1000000000000:=hk
 (rw[<-qnk];delta dK eM gC Z8k qR qf qg qS uv nC oF Z8i Z2 Z8 Z7 Z8h Z8j Z0 T5 Z8f DZ D0 D1 Z8e Jk LJ Jl LK LL Z8g Yv jO HW ZJ gX H2 Fs Cf Cg Ch Z8c cp Z8d Zz ZA Z89 iF Zv lH Z8a Zj Zl Zm Ua jD fO gA gD fP fQ fe gW Jm Jn Jo Jp Jq Z8b Z88 O9 Zn Z5Q D2 Jr Z5T)
 refine⟨o,rfl,rfl,λb hb=>az (λh0=>A ?_ k) λh0=> ?_⟩
 ·have:yX o=C:=by grind
  rw[Nd,zau this]
 have hbt:yX o=O:=by grind
 have u:Nd g.s k o=_:=Nd.eq_1 g.s k o;rw[zat (by rw[hbt];simp)] at u;refine ju (λe=> ?_) λe0=>ju (λe=> ?_) λe1=>ju (λe=> ?_) λe2=>ju (λe=> ?_) λe3=>ju (λe=> ?_) λe4=>A ?_ k
 ·rw[zau e] at u;refine az (λc1=>⟨g,k,o.parent,rfl,rfl,λb2 B=>az (λl=>⟨o.name,rfl,rfl,λb3 F=>bu (by omega) ?_⟩) λl=>bu (by omega) (A ?_ _)⟩) λc1=>bu (by omega) (A ?_ _)
  ·grind
  ·rw[u,zat (λh=>by rw[h.2.1] at B;rw[B] at l;cases l)]
  grind
 ·rw[zat e0,zau e] at u;refine⟨g,k,o.node,rfl,rfl,λb2 B=>az (λl=>⟨g,k,o.parent,rfl,rfl,λb3 F=>az (λG=>⟨o.name,rfl,rfl,λb4 hb4=> ?_⟩) λG=>A ?_ _⟩) λl=>A ?_ _⟩
  ·grind
  ·rw[u,zat (λh=>by rw[h.2.1] at F;rw[F] at G;cases G)]
  grind
 ·skip
  refine⟨g,k,o.node,rfl,rfl,λb2 B=>az (λl=>⟨g,k,o.cV,rfl,rfl,H.2.1,λb3 F=> ?_⟩) λl=>A ?_ _⟩
  ·grind
  grind
 ·rw[zat e0,zat e1,zat e2,zau e] at u;have cE: ∀n,n=HX o.text->0<=n/\n<=2000000:=λn Q=>by have g1:=Ce o.text;have g2:=HY o.text;have:=H.1;omega
  refine⟨o.text,rfl,rfl,H.1,λhv=> ?_,λhv n Q=> ?_⟩
  ·have L:LG o.text=C:=by rw[LG,hv];rfl
   grind
  have:=cE n Q;have L:LG o.text=decide (1<=n/\n<=2000):=by rw[LG,hv,zcD,Q]
  refine⟨g,k,o.node,rfl,rfl,λb2 B=>az (λl=>⟨g,k,o.after,rfl,rfl,λb3 F=>az (λG=> ?_) λG=>bu (by omega) (A ?_ _)⟩) λl=>bu (by omega) (A ?_ _)⟩
  ·rw[eq3 o.elem (g.s.1,g.s.2,k)];refine az (λV=>bj (λc5=>bu (by omega) ?_) λc5=>bu (by omega) (A ?_ _)) λV=>bu (by omega) (A ?_ _)
   ·by_cases U:n<=2000
    ·rw[show decide (n<=2000)=O from za6 U];exact h2 n _ (by rw[u,zau ⟨by rw[<-B,l],by rw[<-F,G],by simpa using V,by rw[L];exact za6 ⟨c5,U⟩⟩,Q]) rfl
    rw[show decide (n<=2000)=C from za7 U];exact A (by rw[u,zat (λh=>by rw[L] at h;exact U (zbF h.2.2.2).2)]) _
   ·rw[u,zat (λh=>by rw[L] at h;exact c5 (zbF h.2.2.2).1)]
   rw[u,zat (λh=>by rw[h.2.2.1] at V;simp at V)]
  ·rw[u,zat (λh=>by rw[h.2.1] at F;rw[F] at G;cases G)]
  rw[u,zat (λh=>by rw[h.1] at B;rw[B] at l;cases l)]
 ·skip
  refine⟨g,k,o.node,rfl,rfl,λb2 B=>az (λl=>⟨g,k,o.elems,rfl,rfl,H.2.2,λb3 F=> ?_⟩) λl=>A ?_ _⟩
  ·grind
  grind
 grind)
theorem qeu:LD X 43 11 (ah (aV 43 11) qnm):=LD.idx (.cons qnq .nil) .nil
 (A:=au) (B:=Int) (λg k i=>wcH g k i) (λg=>J g.ops) (λg i k=>(Uw g/\J g.ops<=200)/\(0<=k/\k<=2000000*i)/\sP g.s 0 g.ops=sP g.s k (g.ops.drop i))
 (λg x=>(sP g.s 0 g.ops=C/\x=(.ret,⟨59,[(2,iD 80)],[]⟩))\/(sP g.s 0 g.ops=O/\x=(.exit 1,⟨59,[],[]⟩)))
 (by
  rintro g k i E h0 U L ⟨G,hk,F⟩ R H
  (rw[<-qaa];delta Zj Zl Zm qR qf qg qS uv nC oF Ua Zz ZA zt cp eN Z8 Z7 Zv Z8r jD Z5Q DZ D0 D1 Jk LJ Jl LK LL Fs Jm Jn Jo Jp Jq Cf Cg Ch D2 Jr Z5T Zs lJ Z8E Z8D Z8C Z8B Z8A Z8z Z8y Z8x Z8w Z8v Z8u Z8t Aj Z8F Z4 Z8o)
  have e1:BC (g.ops.map eX) i.toNat=eX g.ops[i.toNat]:=aA _ _ _ L;rw[e1];simp only[wcH,zaa] at R⊢;have hd:g.ops.drop i.toNat=g.ops[i.toNat]::g.ops.drop (i.toNat+1):=za3 L;have l:=G.1.1 _ (zay L);rw[hd] at F;generalize g.ops[i.toNat]=o at F l;refine YF U (bu ⟨h0,U⟩ (ao (D3 _) ⟨g,k,o,rfl,rfl,⟨l,by unfold kOk;omega⟩,λh Q=>H _ (λh=>by cases h) (.inl ⟨?_,rfl⟩),λn Q h V=>bu (by omega) (R Q ⟨G,?_,?_⟩)⟩))
  ·rw[F,sP,h]
  ·have:=qjl h l.1;omega
  rw[F,sP,h,V])
 (by
  rintro g k i E hi ⟨G,hk,F⟩ H
  (rw[<-qaa];delta Zj Zl Zm qR qf qg qS uv nC oF Ua Zz ZA zt cp eN Z8 Z7 Zv Z8r jD Z5Q DZ D0 D1 Jk LJ Jl LK LL Fs Jm Jn Jo Jp Jq Cf Cg Ch D2 Jr Z5T Zs lJ Z8E Z8D Z8C Z8B Z8A Z8z Z8y Z8x Z8w Z8v Z8u Z8t Aj Z8F Z4 Z8o)
  simp only[zaa];refine bj (λh=>by omega) λh=>H _ (λh=>by cases h) (.inr ⟨?_,rfl⟩);rw[F,zcl];rfl)
 (by rintro s E ⟨g,rfl,G,h1,h2⟩;grind)
theorem qnr:FD X 43 qno:=IN (.cons qet (.cons YH (.cons Pc .nil))) (.cons qeu .nil) (by
 intro ps R E hh;obtain⟨g,rfl,rfl,L,Q⟩:=hh
 (rw[<-qnn];delta Dk Z5 QR qf qg qS uv nC oF zt qR cp eN Z8L Z6 Z1 yZ y5 wQ LI Ub Z8J rR Z8K Z8I FH Zn qK)
 have l:fu g=C->E (.d (.int DD 80),[]):=λh=>Q _ (by rw[h];rfl);have G:fu g=O->E (.d (.int DD 0),[]):=λh=>Q _ (by rw[h];rfl);have u:=fu.eq_1 g;refine⟨g,rfl,rfl,L,λb V=>az (λc1=>l ?_) λc1=> ?_⟩
 ·rw[u,<-V,show b=C by grind];rfl
 rw[<-V,show b=O by grind,zcD] at u;simp only[zaa];refine az (λc2=>⟨g.je,rfl,rfl,λb2 H=>az (λF=>l ?_) λF=>⟨g.je,g.s,rfl,rfl,λc U=>bj (λB=>l ?_) λB=>bj (λc5=>l ?_) λc5=>G ?_⟩⟩) λc2=>bj (λF=>l ?_) λF=>bj (λB=>l ?_) λB=>⟨g,by rfl,⟨L,by omega⟩,λh=>l ?_,λh=>G ?_⟩
 ·rw[zau (by grind),<-H,show b2=C by grind] at u;rw[u];rfl
 ·have A:pq g.je g.s=C:=by rw[<-zbv,<-U.lt];omega
  rw[zau (by grind),A] at u;rw[u];simp
 ·rw[zau (by grind)] at u;rw[u,show(J g.ops==0)=C by rw[beq_eq_false_iff_ne];omega];simp
 ·have A:pq g.je g.s=O:=by rw[<-U.lt];omega
  rw[zau (by grind),<-H,show b2=O by grind,A,show(J g.ops==0)=O by rw[zbV];omega] at u;rw[u];rfl
 ·rw[zat (by grind),za7 (by omega)] at u;rw[u];rfl
 ·rw[zat (by grind),za7 (by omega)] at u;rw[u];rfl
 ·rw[zat (by grind),h] at u;rw[u];simp
 grind)
end
abbrev gbB(g:au):Obj:= .box 31 [iD g.s.1,iD g.s.2,iD g.n,.d (.sl 1 (bL g.deps)),iD g.je.1,iD g.je.2,qiW g.ops]
abbrev gbR(g:au):List (Nat×En):=[(0,⟨0,Y,gbB g⟩)]
def Ak:bc:=λps R E=> ∃g k x,ps=[.d (dp g),.d (aF x),iD k]/\R=[]/\ ∀b,E (lG b,[])
def qgA:bc:=λps R E=> ∃g k x,ps=[.d (dp g),.d (aF x),iD k]/\R=[]/\ ∀b,E (lG b,[])
def qad:bc:=λps R E=> ∃o a b c d e,ps=[.d (eX o),lG a,lG b,lG c,lG d,lG e]/\R=[]/\ ∀r,E (lG r,[])
theorem qae g k x E:(∃h,gW x=gW h/\Zn/\ ∀b,b=rgX h->bif !b then Z3 E else∃a b,Cs (AM [fQ x,fP x])::Ub g=wQ a::rR b/\Zn/\ ∀r,r=pq a b->bif r then ZU E else bif Z5p x g then E (Cs (ID (decide (fO x<k))),[]) else Z3 E)=(aO [(192,qdX),(53,Fq)] [] 188 [.d (dp g),.d (aF x),iD k] []) E:=by kernel_rfl
theorem qjm g k x E:(bif Z5t x then ZU E else∃A h l,qK g::Cs (fe x)::Zm k=qK A::Cs (fe l)::Zm h/\Zn/\ ∀b,E (iF b,[]))=(aO [(188,Ak)] [] 185 [.d (dp g),.d (aF x),iD k] []) E:=by kernel_rfl
def Z8O d e E o:=bif d then bif e then ZU E else E (Cs (ID (Z5V o==(0:Int))),[]) else bif ba (bq.after o)==(0:Int)&&(Jl o==(0:Int)&&O)&&(Jk o==(0:Int)&&O) then bif D1 o==(0:Int)&&(D0 o==(0:Int)&&O)&&(DZ o==(0:Int)&&O) then bif bq.text o==[] then bif e then ZU E else E (Cs (ID (Z5V o==(0:Int))),[]) else Z3 E else Z3 E else Z3 E
def Z8P c o E d e:=bif !c then bif decide (Pa o>(0:Int)) then Z3 E else Z8O d e E o else Z8O d e E o
theorem qev o a b c d e E:(bif !a then bif !(ba (bq.parent o)==(0:Int)&&(Jo o==(0:Int)&&O)&&(Jm o==(0:Int)&&O)) then Z3 E else bif !bq.name o==[] then Z3 E else bif !b then bif bq.dir o then Z3 E else Z8P c o E d e else Z8P c o E d e else bif !b then bif bq.dir o then Z3 E else Z8P c o E d e else Z8P c o E d e)=(aO [] [] 187 [.d (eX o),lG a,lG b,lG c,lG d,lG e] []) E:=by kernel_rfl
abbrev qjn(g:au)(l:List aN)(i:Int):S:=⟨47,[(1,mR l),(2,.ref 0 0 0),(5,iD i)],gbR g⟩
def Cx g:=we 0 Y (GT (31:I) [Cs (oF g),Cs (nC g),uv g,qS g,Cs (qg g),Cs (qf g),qR g])
def Pq g:=[(0,Cx g)]
def Pr:=(2,cp)
def Z8Q(E:PX×S->Prop) l:=E (Q2,AD 47 (Pb l::Zu) [])
theorem qaf g l i E:(bif Z5X i l then ob (Z5Y i l) (ob (H3 l i) (∃s,Z66 l i=rR s/\Zn/\ ∀b,b=LB s->bif !b then Z8Q E l else ob (Z5Y i l) (ob (H3 l i) (∃a b,Cs (LI g)::Z66 l i=wQ a::rR b/\Zn/\ ∀r,r=pq a b->bif r then Z8Q E l else bif ZF i then ob (Z9 i) (ob (Z63 i l) (ob (bE PR (27:I) (BC (aa bX l) (Za i))) (ob (Z5Y i l) (ob (H3 l i) (∃a b,Z67 l i=wQ a::rR b/\Zn/\ ∀r,r=pq a b->bif !r then Z8Q E l else ob (Zv i) (E (xz,AD 47 (Pb l::Pr::ZB i) (Pq g)))))))) else ob (Zv i) (E (xz,AD 47 (Pb l::Pr::ZB i) (Pq g))))))) else E (CE 0,AD 47 [Pb l] []))=(aG [(139,O8),(53,Fq)] [] 189 2 (qjn g l i)) E:=by kernel_rfl
abbrev qjo(g:au)(k:Int)(l:List ak)(i:Int):S:=⟨47,[(1,cF l),(2,iD k),(3,.ref 0 0 0),(7,iD i)],gbR g⟩
def Z8U i (E:PX×S->Prop) l k g:=ob (Zv i) (E (xz,AD 47 (nt l::(2,Zl k)::eN::ZR i) (Pq g)))
theorem Ux g k l i E:(bif Z4o i l then ob (Lo i l) (ob (yT l i) (∃A h x,qK g::Cs (vL l i)::Zm k=qK A::Cs (fe x)::Zm h/\Zn/\ ∀b,bif !b then E (Q2,AD 47 (nt l::Z71) []) else bif ZF i then ob (Z9 i) (ob (decide ((0:Int)<=i-(1:Int)/\i-(1:Int)<vK l)) (ob (bE PR (49:I) (BC (eM l) (Za i))) (ob (Lo i l) (ob (yT l i) (∃x y,Z69 l i=Cs (fe x)::gW y/\Zn/\ ∀c,Ro x y c->bif Z1 c then E (Q2,AD 47 (nt l::Z71) []) else Z8U i E l k g))))) else Z8U i E l k g)) else E (CE 0,AD 47 [nt l] []))=(aG [(188,Ak),(98,Aa)] [] 191 2 (qjo g k l i)) E:=by kernel_rfl
section
variable{X:XF}
theorem Cy:FD X 188 Ak:=IN (.cons qiZ (.cons Ci .nil)) .nil (by
 intro ps R E l;obtain⟨g,k,x,rfl,rfl,h⟩:=l
 (rw[<-qae];delta fO gD Z5p ZT ZU yZ y5 wQ rR nC oF LI Ub fP fQ Z2 Z3 Zn gA fe gW)
 exact⟨x,rfl,rfl,λb _=>az (λ_=>h _) λ_=>⟨Jj x,g.s,rfl,rfl,λc _=>az (λ_=>h _) λ_=>az (λ_=>h _) λ_=>h _⟩⟩)
theorem qjp:FD X 185 qgA:=IN (.cons Cy .nil) .nil (by
 intro ps R E l;obtain⟨g,k,x,rfl,rfl,h⟩:=l
 (rw[<-qjm];delta iF Zn Zj Zl Zm fO gA gD fP fQ fe qf qg nC oF qK ZT ZU Z5t)
 exact az (λ_=>h _) λ_=>⟨g,k,x,rfl,rfl,λb=>h _⟩)
theorem qew:FD X 187 qad:=IN .nil .nil (by
 intro ps R E l;obtain⟨o,a,b,c,d,e,rfl,rfl,h⟩:=l
 (rw[<-qev];delta Z2 Z3 DZ D0 D1 Jk Jl Z5V ZT ZU Z8O Pa Z8P Jm Jo)
 repeat' first |exact h _ |refine az (λ_=> ?_) λ_=> ?_)
def qag:S->K (PX×S):=λh E=> ∃g l,h=qjn g l 0/\J l<=9223372036854775807/\E (.ret,⟨47,[(1,mR l),(4,lG C)],[]⟩)/\E (.exit 0,⟨47,[(1,mR l)],[]⟩)
theorem Uy:LD X 189 2 (ah (aV 189 2) qag):=LD.wk (.cons YI (.cons Ci .nil)) .nil
 (A:=au×List aN) (B:=Unit) (λa _ k=>qjn a.1 a.2 k) (λa=>J a.2) (λa _ _=>J a.2<=9223372036854775807) (λa x=>x=(.ret,⟨47,[(1,mR a.2),(4,lG C)],[]⟩)\/x=(.exit 0,⟨47,[(1,mR a.2)],[]⟩))
 (by
  rintro⟨g,l⟩ b i E h0 dE hC G ho;dsimp only at*
  (rw[<-qaf];delta qR qf qg qS uv nC oF Cx Pq Zz ZA ZB cp Pr H2 Pb Z8 Z7 Zv Zs LM Z66 Za Z67 Ab Z63 Z9 ZF yZ y5 wQ LI Z2 Zu Z8Q Zn rR H3 Z5Y Z5X)
  have H:=ho _ _ (λh=>by cases h) (.inl rfl);have L:=ho _ _ (λh=>by cases h) (.inr rfl);have G:=G ();have e1:=aA bX l;simp only[zaa];refine bj (λF=> ?_) λ_=>L;rw[e1 i.toNat (by omega)];refine bu ⟨h0,F⟩ (ao (ph _) ⟨_,rfl,rfl,λb _=>az (λ_=>H) λ_=>bu ⟨h0,F⟩ (ao (ph _) ⟨g.s,_,rfl,rfl,λc _=>az (λ_=>H) λ_=>bj (λR=> ?_) λ_=>bu (by omega) (G F hC)⟩)⟩);rw[e1 (i-1).toNat (by omega)];exact bu (by omega) (bu ⟨by omega,by omega⟩ (ao (ph _) (bu ⟨h0,F⟩ (ao (ph _) ⟨_,_,rfl,rfl,λc _=>az (λ_=>H) λ_=>bu (by omega) (G F hC)⟩)))))
 (by rintro s E ⟨g,l,rfl,Q,H,L⟩;refine⟨(g,l),(),rfl,Q,?_⟩;rintro e s (h |h)<;>cases h<;>assumption)
def RN:S->K (PX×S):=λh E=> ∃g k l,h=qjo g k l 0/\J l<=9223372036854775807/\E (.ret,⟨47,[(1,cF l),(6,lG C)],[]⟩)/\E (.exit 0,⟨47,[(1,cF l)],[]⟩)
theorem Ps:LD X 191 2 (ah (aV 191 2) RN):=LD.wk (.cons Cy (.cons Ud .nil)) .nil
 (A:=au×Int×List ak) (B:=Unit) (λa _ k=>qjo a.1 a.2.1 a.2.2 k) (λa=>J a.2.2) (λa _ _=>J a.2.2<=9223372036854775807) (λa x=>x=(.ret,⟨47,[(1,cF a.2.2),(6,lG C)],[]⟩)\/x=(.exit 0,⟨47,[(1,cF a.2.2)],[]⟩))
 (by
  rintro⟨g,k,l⟩ b i E h0 dE hC F ho;dsimp only at*
  (rw[<-Ux];delta qR qf qg qS uv nC oF Cx Pq Zz ZA ZR cp eN Zj Zl eM gC nt Z8 Z7 Zv Z8U Z1 fO gA gD fP fQ fe gW Zs I9 Ja HR vL Za Z69 oH vK Z9 ZF Z2 Z71 Zn Zm qK yT Lo Z4o)
  have H:=ho _ _ (λh=>by cases h) (.inl rfl);have L:=ho _ _ (λh=>by cases h) (.inr rfl);have F:=F ();have e1:=aA aF l;simp only[zaa];refine bj (λG=> ?_) λ_=>L;rw[e1 i.toNat (by omega)];refine bu ⟨h0,G⟩ (ao (jG _) ⟨g,k,_,rfl,rfl,λb=>az (λ_=>H) λ_=>bj (λR=> ?_) λ_=>bu (by omega) (F G hC)⟩);rw[e1 (i-1).toNat (by omega)];exact bu (by omega) (bu ⟨by omega,by omega⟩ (ao (jG _) (bu ⟨h0,G⟩ (ao (jG _) ⟨_,_,rfl,rfl,λc _=>bj (λ_=>H) λ_=>bu (by omega) (F G hC)⟩)))))
 (by rintro s E ⟨g,k,l,rfl,Q,H,L⟩;refine⟨(g,k,l),(),rfl,Q,?_⟩;rintro e s (h |h)<;>cases h<;>assumption)
end
theorem qex g l E:(∃A h,AD 47 (Pb l::Pr::ZS) (Pq g)=AD 47 (Pb h::Pr::ZS) (Pq A)/\gX h<=ZJ/\Z3 E/\E (Z86 h,[]))=(aO [] [(2,ah (aV 189 2) qag)] 189 [.d (dp g),mR l] []) E:=by kernel_rfl
theorem qah g k l E:(∃B A h,AD 47 (nt l::(2,Zl k)::eN::xD) (Pq g)=AD 47 (nt h::(2,Zl A)::eN::xD) (Pq B)/\dK h<=ZJ/\Z3 E/\bif decide (vK h>=(1:Int)) then E (Cs (ID (decide (vK h<=(2000:Int)))),[]) else Z3 E)=(aO [] [(2,ah (aV 191 2) RN)] 191 [.d (dp g),cF l,iD k] []) E:=by kernel_rfl
def qai:bc:=λps R E=> ∃g l,ps=[.d (dp g),mR l]/\R=[]/\J l<=9223372036854775807/\ ∀b,E (lG b,[])
def RO:bc:=λps R E=> ∃g k l,ps=[.d (dp g),cF l,iD k]/\R=[]/\J l<=9223372036854775807/\ ∀b,E (lG b,[])
def Z8V s0 h a b c d e:=s0=[Cs (Jr h),iF a,iF b,iF c,iF d,iF e]
def Z8W E:=λs0=> ∃h a b c d e,Z8V s0 h a b c d e/\Zn/\ ∀r,bif r then Z6 E else Ze E
def Z8X g o k:=qK g::Z8c o::Zm k
theorem qns g k o E:(bif bq.kind o==(0:Int) then bif Z88 o g k then∃B A x,qK g::Z8b o::Zm k=qK B::Cs (fe x)::Zm A/\Zn/\ ∀b,bif b then∃s,Z8a o=lH s/\Zn/\ ∀b,b=cR s->bif b then∃G a b c d e,Cs (Jr o)::ZT::ZT::Cs Z2::Cs Z2::Nb=[Cs (Jr G),iF a,iF b,iF c,iF d,iF e]/\Zn/\ ∀r,bif r then Zg E else Ze E else Ze E else Ze E else Ze E else bif bq.kind o==(1:Int) then∃B A x,Z8X g o k=qK B::Cs (fe x)::Zm A/\Zn/\ ∀b,bif b then∃F h x,qK g::Z8b o::Zm k=qK F::Cs (fe x)::Zm h/\Zn/\ ∀b,bif b then∃s,Z8a o=lH s/\Zn/\ ∀b,b=cR s->bif b then Z8W E (Cs (Jr o)::ZT::Cs Z2::Cs Z2::Cs Z2::Nb) else Ze E else Ze E else Ze E else bif bq.kind o==(2:Int) then∃B A x,Z8X g o k=qK B::Cs (fe x)::Zm A/\Zn/\ ∀b,bif b then∃F l,[qK g,Cs (Fs o)]=[qK F,H2 l]/\Zn/\gX l<=ZJ/\ ∀b,bif b then Z8W E (Cs (Jr o)::Cs Z2::Cs Z2::ZT::Cs Z2::Nb) else Ze E else Ze E else bif bq.kind o==(3:Int) then∃s,[Cs (FS (bq.text o))]=lH s/\Zn/\HW s/\(Yv s-> ∃B A x,Z8X g o k=qK B::Cs (fe x)::Zm A/\Zn/\ ∀b,bif b then∃F h x,qK g::Z8g o::Zm k=qK F::Cs (fe x)::Zm h/\Zn/\ ∀b,bif b then bif Z8e o g k then Ze E else Ze E else Ze E else Ze E)/\(T5 s-> ∀n,n=HX s-> ∃B A x,Z8X g o k=qK B::Cs (fe x)::Zm A/\Zn/\ ∀b,bif b then∃F h x,qK g::Z8g o::Zm k=qK F::Cs (fe x)::Zm h/\Zn/\ ∀b,bif b then bif Z8e o g k then bif Z0 n then bif decide (n<=(2000:Int)) then∃G a b c d e,Cs (Jr o)::Cs Z2::Cs Z2::Cs Z2::ZT::Nb=[Cs (Jr G),iF a,iF b,iF c,iF d,iF e]/\Zn/\ ∀r,bif r then E (Zl n,[]) else Ze E else Ze E else Ze E else Ze E else Ze E else Ze E) else bif bq.kind o==(4:Int) then∃B A x,Z8X g o k=qK B::Cs (fe x)::Zm A/\Zn/\ ∀b,bif b then∃F h l,qK g::Cs (IM 3 (aa aF (bq.elems o)))::Zm k=qK F::gC l::Zm h/\Zn/\dK l<=ZJ/\ ∀b,bif b then Z8W E (Cs (Jr o)::Cs Z2::Cs Z2::Cs Z2::Cs Z2::Q0) else Ze E else Ze E else Ze E)=(aO [(187,qad),(188,Ak),(185,qgA),(186,Ij),(189,qai),(191,RO),(190,Rn)] [] 141 [.d (dp g),.d (eX o),iD k] []) E:=by kernel_rfl
def qnt:bc:=λps R E=> ∃g k o,ps=[.d (dp g),.d (eX o),iD k]/\R=[]/\SmO o/\ ∀n,-1<=n/\n<=2000->E (iD n,[])
abbrev qjq(g:au)(k i:Int):S:=⟨90,[(1,.ref 0 0 0),(3,iD k),(4,iD i)],gbR g⟩
theorem qjr g k i E:(bif Z8o i g then ob (Z4 i g) (ob (bE PR (79:I) (lJ g i)) (∃l h o,qK g::Z8F g i::Zm k=qK l::Cs (Jr o)::Zm h/\Zn/\SmO o/\ ∀n,(-1:Int)<=n/\n<=(2000:Int)->bif Z1g n then E (Q2,AD 90 Z8r []) else ob (Z8h k n) (ob (Zv i) (E (xz,AD 90 ((1,cp)::(3,Cs (ue DD (k+n)))::Cu i) (Pq g)))))) else E (CE 0,AD 90 [] []))=(aG [(141,qnt)] [] 94 11 (qjq g k i)) E:=by kernel_rfl
def qnu:S->K (PX×S):=λh E=> ∃g,h=qjq g 0 0/\(Uw g/\J g.ops<=200)/\E (.ret,⟨90,[(2,iD 80)],[]⟩)/\E (.exit 0,⟨90,[],[]⟩)
def Z8Y h:=AD 90 ((1,cp)::(3,Cs Z5)::Us) (Pq h)
theorem qnv g E:(∃s,Ub g=rR s/\Zn/\ ∀b,b=LB s->bif !b then FH E else bif decide (au.n g<(1:Int)) then FH E else bif decide (au.n g>(1099511627776:Int)) then FH E else∃v,[qS g]=ZY v/\Zn/\Vp v/\ ∀b,b=gO v->bif !b then FH E else∃v r,[qS g,Cs (nC g)]=Zw v::Zm r/\Zn/\Vp v/\ ∀n,n=j8 v r->ob (Z8m g) (bif n !=au.n g-(1:Int) then FH E else bif Z8I g then∃s,Z8K g=rR s/\Zn/\ ∀b,b=LB s->bif !b then FH E else∃a b,Z8J g=wQ a::rR b/\Zn/\ ∀r,r=pq a b->bif !r then FH E else bif decide (zt g>(0:Int)) then FH E else Z6 E else bif decide (zt g<(1:Int)) then FH E else bif decide (zt g>(200:Int)) then FH E else∃h,Z8Y g=Z8Y h/\(Uw h/\Dk h<=200)/\FH E/\Z6 E))=(aO [(139,O8),(140,RM),(40,qep),(53,Fq)] [(11,ah (aV 94 11) qnu)] 94 [.d (dp g)] []) E:=by kernel_rfl
def qgB:bc:=λps R E=> ∃g,ps=[.d (dp g)]/\R=[]/\Uw g/\ ∀e,E (iD e,[])
section
variable{X:XF}
theorem qey:FD X 189 qai:=IN .nil (.cons Uy .nil) (by
 intro ps R E B;obtain⟨g,l,rfl,rfl,A,h⟩:=B
 (rw[<-qex];delta Ab Z86 Z2 Z3 ZJ gX qR qf qg qS uv nC oF Cx Pq Z5 ZS cp Pr H2 Pb)
 exact⟨g,l,rfl,A,h _,h _⟩)
theorem qaj:FD X 191 RO:=IN .nil (.cons Ps .nil) (by
 intro ps R E B;obtain⟨g,k,l,rfl,rfl,A,h⟩:=B
 (rw[<-qah];delta eM oH vK Z2 Z3 ZJ dK qR qf qg qS uv nC oF Cx Pq Z5 xD cp eN Zj Zl gC nt)
 exact⟨g,k,l,rfl,A,h _,az (λ_=>h _) λ_=>h _⟩)
theorem qnw:FD X 141 qnt:=IN
  (.cons qew (.cons Cy (.cons qjp (.cons qac (.cons qey (.cons qaj (.cons qdW .nil))))))) .nil (by
 intro ps R E F;obtain⟨g,k,o,rfl,rfl,A,l⟩:=F
 (rw[<-qns];delta ZT Q0 dK eM gC Zj Zl Z0 T5 DZ D0 D1 Z8e Jk LJ Jl LK LL Z8g Yv jO HW ZJ gX H2 Fs Zd Ze Z5 Z6 Zn iF Z5Q Jm Jn Jo Jp Jq Cf Cg Ch D2 Jr Z8V Z8W Zm Z8c qf qg nC oF qK Z8X Zf Zg Z2 Nb lH Z8a fO gA gD fP fQ fe Z8b Z88)
 have h:=l (-1) (by decide);have B:=l 0 (by decide);have G:=l 1 (by decide);refine ju (λ_=>az (λ_=>⟨g,k,_,rfl,rfl,λb=>az (λ_=>⟨o.name,rfl,rfl,λb _=>az (λ_=>⟨o,_,_,_,_,_,rfl,rfl,λb=>az (λ_=>G) λ_=>h⟩) λ_=>h⟩) λ_=>h⟩) λ_=>h) λ_=>
  ju (λ_=>⟨g,k,_,rfl,rfl,λb=>az (λ_=>⟨g,k,_,rfl,rfl,λb=>az (λ_=>⟨o.name,rfl,rfl,λb _=>az (λ_=>⟨o,_,_,_,_,_,rfl,rfl,λb=>az (λ_=>B) λ_=>h⟩) λ_=>h⟩) λ_=>h⟩) λ_=>h⟩) λ_=>
  ju (λ_=>⟨g,k,_,rfl,rfl,λb=>az (λ_=>⟨g,o.cV,rfl,rfl,A.2.1,λb=>az (λ_=>⟨o,_,_,_,_,_,rfl,rfl,λb=>az (λ_=>B) λ_=>h⟩) λ_=>h⟩) λ_=>h⟩) λ_=>
  ju (λ_=>⟨o.text,rfl,rfl,A.1,λ_=>⟨g,k,_,rfl,rfl,λb=>az (λ_=>⟨g,k,_,rfl,rfl,λb=>az (λ_=>az (λ_=>h) λ_=>h) λ_=>h⟩) λ_=>h⟩,λ_ n _=>⟨g,k,_,rfl,rfl,λb=>az (λ_=>⟨g,k,_,rfl,rfl,λb=>az (λ_=>az (λ_=>bj (λ_=>bj (λ_=>⟨o,_,_,_,_,_,rfl,rfl,λb=>az (λ_=>l n (by omega)) λ_=>h⟩) λ_=>h) λ_=>h) λ_=>h) λ_=>h⟩) λ_=>h⟩⟩) λ_=>
  ju (λ_=>⟨g,k,_,rfl,rfl,λb=>az (λ_=>⟨g,k,o.elems,rfl,rfl,A.2.2,λb=>az (λ_=>⟨o,_,_,_,_,_,rfl,rfl,λb=>az (λ_=>B) λ_=>h⟩) λ_=>h⟩) λ_=>h⟩) λ_=>h)
theorem qez:LD X 94 11 (ah (aV 94 11) qnu):=LD.wk (.cons qnw .nil) .nil
 (A:=au) (B:=Int) (λg k i=>qjq g k i) (λg=>J g.ops) (λg i k=>(Uw g/\J g.ops<=200)/\0<=k/\k<=2000*i)
 (λ_ x=>x=(.ret,⟨90,[(2,iD 80)],[]⟩)\/x=(.exit 0,⟨90,[],[]⟩))
 (by
  rintro g k i E Q V ⟨l,hk⟩ L F
  (rw[<-qjr];delta qR qf qg qS uv nC oF Cx Pq Zz ZA Cu cp Z8 Z7 Zv Z8h Z8r Z1g Zn Z5Q DZ D0 D1 Jk LJ Jl LK LL Fs Jm Jn Jo Jp Jq Cf Cg Ch D2 Jr Zj Zl Zm Zs lJ Z8E Z8D Z8C Z8B Z8A Z8z Z8y Z8x Z8w Z8v Z8u Z8t Aj Z8F qK zt Z4 Z8o)
  simp only[zaa];refine bj (λH=> ?_) λ_=>F _ _ (λh=>by cases h) (.inr rfl);have G:i.toNat<J g.ops:=by omega
  rw[aA eX g.ops _ G];exact bu ⟨Q,H⟩ (ao (D3 _) ⟨g,k,_,rfl,rfl,l.1.1 _ (zay G),λn h=>bj (λ_=>F _ _ (λh=>by cases h) (.inl rfl)) λ_=>bu (by omega) (bu (by omega) (L (k+n) H ⟨l,by omega⟩))⟩))
 (by rintro s E ⟨g,rfl,l,U,R⟩;refine⟨g,0,rfl,⟨l,by decide⟩,?_⟩;rintro e s (h |h)<;>cases h<;>assumption)
theorem qjs:FD X 94 qgB:=IN (.cons YI (.cons qjj (.cons qjk (.cons Ci .nil)))) (.cons qez .nil) (by
 intro ps R E A;obtain⟨g,rfl,rfl,l,h⟩:=A
 (rw[<-qnv];delta Dk qR qf qg qS uv nC oF Cx Pq Z5 Us cp Z8Y Z6 zt yZ y5 wQ LI Ub Z8J Z8K Z8I Z8 Z7 Z8m Zj Zl Zm Zw Vp ZY FH Zn rR)
 simp only[zaa];exact⟨g.s,rfl,rfl,λb _=>az (λ_=>h _) λ_=>bj (λ_=>h _) λG=>bj (λ_=>h _) λF=>⟨g.deps,rfl,rfl,l.2.2,λH _=>az (λ_=>h _) λ_=>⟨g.deps,g.s.2,rfl,rfl,l.2.2,λn B=>bu (by omega) (Lf (λ_=>h _) λ_=>az (λ_=>⟨g.je,rfl,rfl,λb _=>az (λ_=>h _) λ_=>⟨g.je,g.s,rfl,rfl,λc _=>az (λ_=>h _) λ_=>bj (λ_=>h _) λ_=>h _⟩⟩) λ_=>bj (λ_=>h _) λ_=>bj (λ_=>h _) λ_=>⟨g,rfl,⟨l,by omega⟩,h _,h _⟩)⟩⟩⟩)
end
abbrev xR(z:Bool)(l:List au):Obj:= .arr 31 z (l.map dp)
abbrev mpS(f:D->Option D)(c:Int):Obj:= .map 27 f c C
def FI l:=J l<=1000000/\ ∀g∈l,Uw g
def qak:bc:=λps R E=> ∃m s,ps=[.sl 0 0 (J m),.d (bX s)]/\R=[(0,⟨0,Z 0,xR C m⟩)]/\J m<=1000000/\ ∀i,E (iD i,[(0,⟨0,Z 0,xR C m⟩)])
abbrev fdH(m:List au)(s:aN)(i:Int):S:=⟨20,[(0,.sl 0 0 (J m)),(3,.ref 1 0 0),(5,iD i)],[(0,⟨0,Z 0,xR C m⟩),(1,⟨0,Y,.box 27 [iD s.1,iD s.2]⟩)]⟩
def Z9a s:=we 0 Y (GT (27:I) [Cs (y5 s),Cs (yZ s)])
def ia m:=aa dp m
def Z98 m:=(0,we 0 (Z 0) (AS (31:I) C (ia m)))
def Z99 m:=[Z98 m]
def Ea(m:List au):=If 0 0 (J m)
def Al m:=(0,Ea m)
def su m i:=BC (ia m) (Zs i)
noncomputable def nV m i:=bE PR (31:I) (su m i)
def kH m:=J (ia m)
def Vq i m:=decide (Zs i<kH m)
def wg(m:List au):=(↑(J m):Int)
def Vr i m:=decide ((0:Int)<=i/\i<wg m)
theorem qnx m (s:aN) i E:(bif decide (i<wg m) then ob (Vr i m) (ob (Vq i m) (ob (nV m i) (bif AC (vc (su m i) 0)==ba s&&(AC (vc (su m i) 1)==bl s&&O) then E (Q2,AD 20 (Al m::HU i) (Z99 m)) else ob (Zv i) (E (xz,AD 20 (Al m::wO::ZB i) [Z98 m,(1,Z9a s)]))))) else E (CE 0,AD 20 [Al m] (Z99 m)))=(aG [] [] 16 2 (fdH m s i)) E:=by kernel_rfl
def gFd:S->K (PX×S):=λh E=> ∃m s,h=fdH m s 0/\J m<=1000000/\(∀i,E (.ret,⟨20,[(0,.sl 0 0 (J m)),(4,iD i)],[(0,⟨0,Z 0,xR C m⟩)]⟩))/\E (.exit 0,⟨20,[(0,.sl 0 0 (J m))],[(0,⟨0,Z 0,xR C m⟩)]⟩)
def sv(h:List au):=J h<=1000000
def Z9b h l:=AD 20 (Al h::wO::ZS) [Z98 h,(1,Z9a l)]
theorem qrT m s E:(∃h l,Z9b m s=Z9b h l/\sv h/\(∀i,E (Zl i,Z99 h))/\E (Zd,Z99 h))=(aO [] [(2,ah (aV 16 2) gFd)] 16 [.sl 0 0 (J m),.d (bX s)] [(0,⟨0,Z 0,xR C m⟩)]) E:=by kernel_rfl
abbrev qeA(l out:List au)(i:Int):S:=⟨35,[(0,ey l),(3,.sl 0 0 (J out)),(4,iD i)],[(0,⟨0,Y,xR C out⟩)]⟩
def Vs m:=we 0 Y (AS (31:I) C (ia m))
def Vt m:=[(0,Vs m)]
def jf l:=Cs (IM 7 (ia l))
def iG l:=(0,jf l)
def L9 l i:=ue DD (AC (vc (su l i) 1))
def Ma l i:=ue DD (AC (vc (su l i) 0))
def Z9h l i:=AM [Ma l i,L9 l i,ue DD (AC (vc (su l i) 2)),IM 1 (D.gh (vc (su l i) 3)),ue DD (AC (vc (su l i) 4)),ue DD (AC (vc (su l i) 5)),IM 18 (D.gh (vc (su l i) 6))]
def Z9i(out:List au) l i:=J out+J [Z9h l i]
def Mb l i:=AM [Ma l i,L9 l i]
def tB i l:=decide ((0:Int)<=i/\i<(↑(kH l):Int))
def Ju i l:=decide (i<(↑(kH l):Int))
theorem qny l out i E:(bif Ju i l then ob (tB i l) (ob (nV l i) (∃g,[Cs (Z9h l i)]=[qK g]/\Zn/\Uw g/\ ∀e,bif e==(0:Int) then ob (tB i l) (ob (nV l i) (∃m s,[Ea out,Cs (Mb l i)]=Ea m::rR s/\Z99 out=Z99 m/\sv m/\ ∀h,bif Z1g h then ob (tB i l) (ob (nV l i) (ob (gr (J out) (kH m)&&aB (Z9i out l i) 88) (ob (Zv i) (E (xz,AD 35 (iG l::(3,If 0 0 (Z9i out l i))::Cu i) [(0,we 0 Y (AS (31:I) C (ab (J out) (ia m)++[Z9h l i])))]))))) else ob (Zv i) (E (xz,AD 35 (iG l::(3,Ea out)::Cu i) (Vt m))))) else ob (Zv i) (E (xz,AD 35 (iG l::(3,Ea out)::Cu i) (Vt out))))) else E (CE 0,AD 35 [(3,Ea out)] (Vt out)))=(aG [(94,qgB),(16,qak)] [] 54 3 (qeA l out i)) E:=by kernel_rfl
def qnz:S->K (PX×S):=λh E=> ∃l,h=qeA l [] 0/\FI l/\ ∀m,m.Sublist l->E (.exit 0,⟨35,[(3,.sl 0 0 (J m))],[(0,⟨0,Y,xR C m⟩)]⟩)
def Z9o:=we 0 Y (AS (31:I) C [])
def Z9p:=[(0,Z9o)]
theorem qnA l E:(∃h,AD 35 (iG l::Y1) Z9p=AD 35 (iG h::Y1) Z9p/\FI h/\ ∀m,List.Sublist m h->E (Ea m,Vt m))=(aO [] [(3,ah (aV 54 3) qnz)] 54 [ey l] []) E:=by kernel_rfl
def qnB:bc:=λps R E=> ∃l,ps=[ey l]/\R=[]/\FI l/\ ∀m,m.Sublist l->E (.sl 0 0 (J m),[(0,⟨0,Y,xR C m⟩)])
theorem qeB{o g}(h:fu g=C):nD o g=o:=by grind [nD]
theorem qal{o g}(h:(o.any λx=>x.s==g.s)=O):nD o g=o:=by grind [nD]
theorem qam{o g}(h:fu g=O)(l:(o.any λx=>x.s==g.s)=C):nD o g=o++[g]:=by unfold nD;rw[zau ⟨h,l⟩]
theorem Mc{l i}(h:i<J l):aC (l.take (i+1))=nD (aC (l.take i)) l[i]:=by rw[zah h,LV]
theorem dw{m n}(h:m<=1000000)(l:n<=1000):aB (m+1) n=O:=bP (zaJ (Nat.mul_le_mul (by omega:m+1<=1000001) l) (by omega)) (by omega)
def Eb(U:List aN)(o:List au):= ∀x,x∈U↔(o.any λy=>y.s==x)=O
theorem Eb.nil:Eb [] []:=λx=>by simp
theorem Eb.had{U o x}(h:Eb U o)(l:x∈U):Eb (x::U) o:=λy=>by
 rw[zao,h y];constructor
 ·rintro(rfl |h2)
  ·exact(h _).1 l
  exact h2
 grind
theorem Eb.new{U o g}(h:Eb U o):Eb (g.s::U) (o++[g]):=λy=>by rw[zao,h y,zcq,zbn];grind
theorem Md n:bE PR 3 (.int DD n)=O:=by rfl
section
variable{X:XF}
theorem qjt:LD X 16 2 (ah (aV 16 2) gFd):=LD.wk .nil .nil
 (A:=List au×aN) (B:=Unit) (λa _ k=>fdH a.1 a.2 k) (λa=>J a.1) (λa _ _=>J a.1<=1000000)
 (λa x=>(∃i,x=(.ret,⟨20,[(0,.sl 0 0 (J a.1)),(4,iD i)],[(0,⟨0,Z 0,xR C a.1⟩)]⟩))\/x=(.exit 0,⟨20,[(0,.sl 0 0 (J a.1))],[(0,⟨0,Z 0,xR C a.1⟩)]⟩))
 (by
  rintro⟨m,s⟩ b i E h0 dE hC hn ho
  try dsimp only at*
  (rw[<-qnx];delta yZ y5 Z9a ia Z98 Zz ZA ZB jB wO Z8 Z7 Zv Z99 Zj Zl qO HU Ea Al Zs su nV kH Vq wg Vr)
  refine b8 (λl=> ?_) λ_=>ho _ _ (λh=>by cases h) (.inr rfl);have G:i.toNat<J m:=by omega
  rw[aA dp m _ G];exact ar ⟨h0,l⟩ (ar (by grind) (ao (mS _) (az (λ_=>ho _ _ (λh=>by cases h) (.inl ⟨i,rfl⟩)) λ_=>ar (by omega) (hn b l hC)))))
 (by
  rintro Q E ⟨m,s,rfl,F,L,H⟩;refine⟨(m,s),(),rfl,F,?_⟩;rintro e s (⟨i,h⟩|h)<;>cases h
  ·exact L i
  exact H)
theorem qeC:FD X 16 qak:=IN .nil (.cons qjt .nil) (by
 intro ps R E h;obtain⟨m,s,rfl,rfl,A,l⟩:=h
 (rw[<-qrT];delta Zd ia Z98 Z99 Zj Zl sv yZ y5 Z9a Z5 ZS jB wO Ea Al Z9b)
 grind)
theorem qeD:LD X 54 3 (ah (aV 54 3) qnz):=LD.wk (.cons qjs (.cons qeC .nil)) .nil
 (A:=List au) (B:=List au) (λl o i=>qeA l o i) (λl=>J l) (λl i o=>FI l/\o.Sublist (l.take i.toNat))
 (λl x=> ∃m:List au,m.Sublist l/\x=(.exit 0,⟨35,[(3,.sl 0 0 (J m))],[(0,⟨0,Y,xR C m⟩)]⟩))
 (by
  rintro l o i E Q dE ⟨F,V⟩ U ho
  try skip
  (rw[<-qny];delta ia Vs Vt Zz ZA Cu jf iG Z8 Z7 Zv Zs su L9 Ma Z9h Z9i kH Z1g sv Z98 Z99 yZ y5 wQ rR Mb Ea Zn qf qg nC oF qK nV tB Ju)
  simp only[zaa,zav,zaI,zaE];refine b8 (λG=> ?_) λ_=>ho _ _ (λh=>by cases h) ⟨o,V.trans (List.take_sublist _ _),rfl⟩;have R:i.toNat<J l:=by omega
  have uo:=V.length_le;have xh:=F.1;have L:=F.2 _ (zay R);have uN:l.take (i+1).toNat=l.take i.toNat++[l[i.toNat]]:=by rw[show(i+1).toNat=i.toNat+1 by omega,zah R]
  rw[zaG] at uo;rw[aA dp l _ R];generalize l[i.toNat]=g at*
  have no:=U o G ⟨F,by grind⟩;have H:=U (o++[g]) G ⟨F,by grind⟩;simp only[qeA,xR,zaf,zav,zaI,zaE] at H;rw[<-bx] at H;exact ar ⟨Q,G⟩ (ao (mS _) ⟨g,rfl,rfl,L,λe=>zp (λ_=>ar ⟨Q,G⟩ (ao (mS _) ⟨o,g.s,rfl,rfl,by omega,λk=>b8 (λ_=>ar ⟨Q,G⟩ (ao (mS _) (ao (by rw[zac];exact⟨by simp,dw (by omega) (by omega)⟩) (ar (by omega) H)))) λ_=>ar (by omega) no⟩)) λ_=>ar (by omega) no⟩))
 (by rintro s E ⟨l,rfl,F,hp⟩;grind)
theorem qan:FD X 54 qnB:=IN .nil (.cons qeD .nil) (by
 intro ps R E h;obtain⟨l,rfl,rfl,A,B⟩:=h
 (rw[<-qnA];delta ia Vs Vt Ea Z9o Z9p Z5 Us ZV Y1 jf iG)
 grind)
end
abbrev FJ:=S×(PX×S)->K (PX×S×(PX×S))
noncomputable def RP(H h:List (FuncId×bc))(f id:Nat):S->(PX×S->Prop)->Prop:=Hs PR (runK PR oB qv H 60 60) h (aV f) [] (qv f) (oA PR f id).asg
noncomputable def Ik(H h:List (FuncId×bc))(f id:Nat):S->(PX×S->Prop)->Prop:=Hs PR (runK PR oB qv H 60 60) h (aV f) [] (qv f) (oA PR f id).body
noncomputable def RQ H h (hk:FuncId->Nat->List (Nat×FJ))(f id base:Nat) keep s:=
 Ot PR (runK PR oB qv H 60 60) (oA PR f id).ps.toList base keep (RP H h f id) (Ik H h f id) hk qv (oA PR f id).g s
noncomputable def Am H l (f id base:Nat) keep B h A y:=
 qcN (fo PR (runK PR oB qv H 60 60) B (lD (oA PR f id).ps.toList base keep (RP H l f id) (Ik H l f id)) [] (qv h) (bA PR h A)) (aV h A) y
def LY w0 (f id l A F:Nat)(h:FJ):= ∀(B:pU PR) (Ti:Tg),Setup B Ti l w0 (oA PR f id).ps (oA PR f id).asg (oA PR f id).body-> ∀y E,h y E->se B Ti (.loop (bA PR A F)) y.2 y.1 E
noncomputable def xS(f id:Nat):=(aH (oA PR f id).asg).isEmpty&&(aH (oA PR f id).body).isEmpty&&(cr (oA PR f id).asg).isEmpty&&(cr (oA PR f id).body).isEmpty&&cC (qv f) (oA PR f id).asg&&cC (qv f) (oA PR f id).body
theorem Me{X w0}(hX:b7 PR w0 X.cf){H A}(G:HD X H)(B:Jb w0 A){f id}(h:xS f id=O) val lo s E (F:RP H A f id s E):
  TW PR ⟨val,w0,lo,C⟩ (oA PR f id).asg s E:=by
 simp only[xS,zac] at h;exact sd (kp:=yP X) (T:=⟨val,w0,lo,C⟩) B.get (nR G) hX sK (kp1:=aV f) _ h.1.2 (λd hd=>by rw[zbJ.1 h.1.1.1.1.1] at hd;cases hd) (λx l=>by rw[zbJ.1 h.1.1.1.2] at l;cases l) _ _ F
theorem FK{X w0}(hX:b7 PR w0 X.cf){H A}(G:HD X H)(B:Jb w0 A){f id}(h:xS f id=O) val lo s E (F:Ik H A f id s E):
  TW PR ⟨val,w0,lo,C⟩ (oA PR f id).body s E:=by
 simp only[xS,zac] at h;exact sd (kp:=yP X) (T:=⟨val,w0,lo,C⟩) B.get (nR G) hX sK (kp1:=aV f) _ h.2 (λd hd=>by rw[zbJ.1 h.1.1.1.1.2] at hd;cases hd) (λx l=>by rw[zbJ.1 h.1.1.2] at l;cases l) _ _ F
theorem FN.mk{X w0}(hX:b7 PR w0 X.cf){H R}(L:HD X H)(Q:Jb w0 R){f id base keep}(V:xS f id=O){hk}
  (hu: ∀F G h U,lk (hk F G) U=Z h->uniq PR F=O/\LY w0 f id G F U h) {g} (hg: ∀s E,g s E->RQ H R hk f id base keep s E):FN w0 f id g:=by
 intro val lo s E A;refine TW.rangeFunc (kp:=yP X) (T:=⟨val,w0,lo,O⟩) (nR L) hX sK rfl K4 (λv l s E A=>Me hX L Q V v l s E A) (λv l s E A=>FK hX L Q V v l s E A) ?_ (hg s E A);intro F fn c fj hc d hd G h hh B Ti hs y E A;obtain⟨h1,h2⟩:=hu F G h _ hh;have e:bA PR F (No d)=d:=by grind [uniq,bA,iQ,dj]
 have:=h2 B Ti hs y E A;rwa [e] at this
theorem LY.par{X w0}(hX:b7 PR w0 X.cf){H HN}(hH:HD X H)(jd:Jb w0 HN){f id base keep yt G L}(Dy:xS f id=O)(hc:cC (qv G) (bA PR G L)=O)(AY:(aH (bA PR G L)).isEmpty=O){g:FJ}
  {A B:Type} (hd:A->B->S×(PX×S)) (Inv:A->B->Prop) (mu:A->B->Nat) (R:A->PX×S×(PX×S)->Prop)
  (hr: ∀a b,Inv a b->Am H HN f id base keep yt G L (hd a b) (Ou (mu a b) (λm y=> ∃Q,y=hd a Q/\Inv a Q/\m=mu a Q) (R a)))
  (hg: ∀y E,g y E-> ∃a b,y=hd a b/\Inv a b/\ ∀x,R a x->E x):LY w0 f id yt G L (j7 (aV G L) g):=by
 intro Be Ti F y E V;unfold j7 at V;cases hh:cQ (aV G L) y.1 with
 |none=>grind
 |some s0=>
  simp only[hh] at V;obtain⟨a,b,h0,h1,h2⟩:=hg (s0,y.2) E V;refine se.mono (se.loop (keep:=aV G L) (I:=λm s c=> ∃Q,(s,c)=hd a Q/\Inv a Q/\m=mu a Q) (O:=R a) (F.w0i.trans F.w0b.symm) (λn s c hI=> ?_) hh ⟨b,h0,h1,rfl⟩) h2;obtain⟨Q,h3,U,rfl⟩:=hI;have:=hr a Q U;rw[<-h3] at this;unfold Am at this;refine se.mono (iR (B:=Be) (Ti:=Ti) (kp:=yP X) (nR hH) (by rw[F.w0i];exact hX) sK (F.w0i.trans F.w0b.symm) F.V8 F.yv F.lp (asg:=RP H HN f id) (body:=Ik H HN f id) (base:=base) (keep:=keep)
   (λv l s E V=>by rw[F.w0b,F.asg];grind [Me]) (λv l s E V=>by rw[F.w0b,F.body];grind [FK])
   (bA PR G L) hc (λd hd=>by rw[zbJ.1 AY] at hd;cases hd) (s,c) _ (by rw[F.ps];exact this)) ?_
  rintro⟨e,s1,c1⟩ hx;cases e with
  |normal=>obtain⟨s2,U,m,h5,h6⟩:=PP (p:=λs2=>cQ (aV G L) s1=Z s2) (λ_ h=>h) _ hx;grind
  |exit i=>obtain⟨s2,U,h5⟩:=PP (p:=λs2=>dD (aV G L) s1=Z s2) (λ_ h=>h) _ hx;exact⟨s2,U,h5⟩
  |ret=>obtain⟨s2,U,h5⟩:=PP (p:=λs2=>dD (aV G L) s1=Z s2) (λ_ h=>h) _ hx;exact⟨s2,U,h5⟩
variable{X:XF}
theorem LN.idx{w0}(hX:b7 PR w0 X.cf){H R hk}{f id:Nat}{g}(L:(cr (bA PR f id)).isEmpty=O)(hH:HD X H)(jd:Jb w0 R)(hl:Lu w0 f hk)
  {A B:Type} (hd:A->B->Int->S) (len:A->Nat) (Inv:A->Nat->B->Prop) (l:A->PX×S->Prop)
  (hr: ∀a b (k:Int) E,0<=k->k<len a->k.toNat<len a->Inv a k.toNat b->(∀h,Inv a (k.toNat+1) h->E (.normal,hd a h (k+1)))->(∀x,x.1≠ .normal->l a x->E x)->bV H R hk f id (hd a b k) E)
  (F: ∀a b (k:Int) E,k=len a->Inv a (len a) b->(∀x,x.1≠ .normal->l a x->E x)->bV H R hk f id (hd a b k) E)
  (hg: ∀s E,g s E-> ∃a b,s=hd a b 0/\Inv a 0 b/\ ∀x,l a x->E x) (hu:uniq PR f=O:=by kernel_rfl):LN w0 f id (ah (aV f id) g):=
 LN.par hX L hH jd hl (hu:=hu) (A:=A) (B:=B×Int) (λa b=>hd a b.1 b.2) (λa b=>0<=b.2/\b.2.toNat<=len a/\Inv a b.2.toNat b.1) (λa b=>(len a-b.2).toNat) l
  (by
   rintro a ⟨b,k⟩ ⟨Q,U,G⟩;dsimp only at*
   have V: ∀x:PX×S,x.1≠ .normal->l a x->roundPost ((len a-k).toNat) (λm s=> ∃h:B×Int,s=hd a h.1 h.2/\(0<=h.2/\h.2.toNat<=len a/\Inv a h.2.toNat h.1)/\m=(len a-h.2).toNat) (l a) x:=by
    rintro⟨e,s⟩ cU F;cases e with
    |normal=>exact absurd rfl cU
    |exit i=>exact F
    |ret=>exact F
   by_cases hk:k<len a
   ·refine hr a b k _ Q hk (by omega) G (λh hb=> ?_) V;exact⟨((len a:Int)-(k+1)).toNat,by omega,(h,k+1),rfl,⟨by show 0<=k+1;omega,by show(k+1).toNat<=len a;omega,by show Inv a (k+1).toNat h;rw[show(k+1).toNat=k.toNat+1 by omega];exact hb⟩,rfl⟩
   have e:k=len a:=by omega
   refine F a b k _ e ?_ V;have:k.toNat=len a:=by omega
   rwa [this] at G)
  (by intro s E hp;obtain⟨a,b,Q,U,G⟩:=hg s E hp;exact⟨a,(b,0),Q,⟨zbW _,by simp,U⟩,G⟩)
theorem FL{α:Type}(lt:α->α->Bool) l:J (dL lt l)=J l:=(cm l).length_eq
def RR{α:Type}(o:List α) k x y:=(o.set k y).set (k-1) x
theorem qao{α:Type}(pre h:List α) x y:RR (pre++[y]++x::h) (J pre+1) x y=pre++x::(y::h):=by grind [RR,pre]
variable{X:XF}
theorem LD.ins{H hk f id g}(hH:HD X H)(hl:TC X f hk)
  {A α:Type} (hd:A->List α->Int->S) lt (N:A->Nat) (C:A->Prop) (F:A->List α->PX×S) (cU: ∀a o,(F a o).1≠ .normal)
  (hr: ∀a o (k:Int) E,C a->0<=k->J o=N a->N a<=1000001->(Q:k.toNat<J o)->(k=0->E (F a o))->(0<k->lt o[k.toNat] (o[k.toNat-1]'(by omega))=false->E (F a o))->
   (0<k->lt o[k.toNat] (o[k.toNat-1]'(by omega))=O->E (.normal,hd a (RR o k.toNat o[k.toNat] (o[k.toNat-1]'(by omega))) (k-1)))->aG H hk f id (hd a o k) E)
  (hg: ∀s E,g s E-> ∃a o x k,s=hd a (o++[x]) k/\k=J o/\C a/\(J o+1=N a/\J o<=1000000)/\E (F a (fU lt o x))) (hu:uniq PR f=O:=by kernel_rfl):LD X f id (ah (aV f id) g):=
 LD.par hH hl (hu:=hu) (A:=A×List α×α) (B:=List α×List α×Int) (λa b=>hd a.1 (b.1++a.2.2::b.2.1) b.2.2)
  (λa b=>(C a.1/\J b.1+J b.2.1+1=N a.1)/\b.2.2=J b.1/\J b.1+J b.2.1<=1000000/\(sN lt a.2.2 b.1.reverse).reverse++b.2.1=fU lt a.2.1 a.2.2) (λ_ b=>J b.1) (λa x=>x=F a.1 (fU lt a.2.1 a.2.2))
  (by
   rintro⟨a,o,x⟩ ⟨pre,RS,k⟩ ⟨⟨L,hN⟩,G,h3,U⟩;dsimp only at*
   have bF: ∀y,y=F a (fU lt o x)->roundPost (J pre) (λm s=> ∃l:List α×List α×Int,s=hd a (l.1++x::l.2.1) l.2.2/\((C a/\J l.1+J l.2.1+1=N a)/\l.2.2=J l.1/\J l.1+J l.2.1<=1000000/\(sN lt x l.1.reverse).reverse++l.2.1=fU lt o x)/\m=J l.1) (λy=>y=F a (fU lt o x)) y:=by
    rintro⟨e,s⟩ he;have hn:=cU a (fU lt o x);rw[<-he] at hn;cases e with
    |normal=>grind
    |exit i=>exact he
    |ret=>exact he
   have Q:k.toNat=J pre:=by omega
   have hlen:J (pre++x::RS)=J pre+J RS+1:=by simp;omega
   have hx:(pre++x::RS)[k.toNat]'(by omega)=x:=by simp[Q]
   refine hr a (pre++x::RS) k _ L (by omega) (by omega) (by omega) (by omega) (λhz=>bF _ ?_) (λR V=>bF _ ?_) λR V=> ?_
   ·have:pre=[]:=zaz (by omega);grind [sN]
   ·obtain⟨p,y,rfl⟩: ∃p y,pre=p++[y]:=by
     rcases List.eq_nil_or_concat pre with h | ⟨p,y,h⟩
     ·subst h;simp at G;omega
     grind
    grind [sN]
   obtain⟨p,y,rfl⟩: ∃p y,pre=p++[y]:=by
    rcases List.eq_nil_or_concat pre with h | ⟨p,y,h⟩
    ·subst h;simp at G;omega
    grind
   have hy:(p++[y]++x::RS)[k.toNat-1]'(by omega)=y:=by simp[Q]
   have Pn:RR (p++[y]++x::RS) k.toNat x y=p++x::(y::RS):=by rw[Q,zaf];exact qao p RS x y
   have KN:J (p++[y])=J p+1:=by simp
   rw[hx,hy] at V⊢;refine⟨J p,by omega,(p,y::RS,k-1),by rw[Pn],⟨⟨L,by grind⟩,by grind,by show J p+J (y::RS)<=1000000;simp only[zav];omega,?_⟩,rfl⟩;show(sN lt x p.reverse).reverse++y::RS=fU lt o x;rw[<-U];simp[sN,V])
  (by intro s E R;obtain⟨a,o,x,k,L,G,h3,⟨h6,U⟩,h5⟩:=hg s E R;refine⟨(a,o,x),(o,[],k),L,⟨⟨h3,by simpa using h6⟩,G,by simpa using U,by simp[fU]⟩,?_⟩;rintro y rfl;exact h5)
def dX(h:Hd):D:= .agg [iE h.1.1,iE h.1.2,iE h.2.1,iE h.2.2]
abbrev arH(z:Bool)(l:List Hd):Obj:= .arr 143 z (l.map dX)
abbrev Dl(z:Bool)(l:List Hd):Obj:= .arr 77 z (l.map dX)
abbrev Ed(l:List Hd):P:= .d (.sl 4 (l.map dX))
abbrev Pt(l:List Hd):=mR (l.map (·.1))
abbrev Pu(l:List Hd):=mR (l.map (·.2))
abbrev ehH(l out:List Hd)(f:D->Option D)(c i:Int):S:=⟨50,[(0,Pt l),(1,Pu l),(5,.sl 0 0 (J out)),(6,.mp 1 0),(14,iD (min (J ((l.map (·.1)).map bX):Int) (J ((l.map (·.2)).map bX):Int))),(15,iD i)],[(0,⟨0,Y,arH C out⟩),(1,⟨0,Y,mpS f c⟩)]⟩
def Z9I out:=(0,we 0 Y (AS (143:I) C (aa dX out)))
def jg(out:List Hd):=J out
def xT out:=If 0 0 (jg out)
def Cz l:=aa bX (aa (λ(x:Hd)=>ba x) l)
def Z9u l i:=ue DD (AC (vc (BC (Cz l) (Zs i)) 0))
def Z9v l i:=AM [Z9u l i,ue DD (AC (vc (BC (Cz l) (Zs i)) 1))]
def Z9F l i:=AM [Z9u l i,ue DD (AC (vc (BC (Cz l) (Zs i)) k7))]
def Z9G l i f c:=[(1,we 0 Y (HH 27 (λh=>bif NO (Z9F l i) h then Z (ue DD (AC (aK (f (Z9F l i)) Z5)+(1:Int))) else aW (Z9F l i) (aK (f (Z9F l i)) Z5) f h) (bif ir (f (Z9v l i)) then c else c+(1:Int)) C))]
def Uz out:=ab (jg out) (aa dX out)
def Jv l:=aa bX (aa (λ(x:Hd)=>bl x) l)
def Z9s l:=min (↑(J (Cz l)):Int) (↑(J (Jv l)):Int)
def Z9C:=(6,P.mp 1 0)
def Z9D l i:=[Z9C,(14,Cs (ue DD (Z9s l))),(15,ZA i)]
def Z9B l:=(1,Cs (IM 2 (Jv l)))
def Z9A l:=(0,Cs (IM 2 (Cz l)))
def Z9z l i:=[AM [Z9u l i,ue DD (AC (vc (BC (Cz l) (Zs i)) 1)),ue DD (AC (vc (BC (Jv l) (Zs i)) 0)),ue DD (AC (vc (BC (Jv l) (Zs i)) 1))]]
def Z9y out:=gr (jg out) (J (aa dX out))
def Z9w l i f:=aK (aW (Z9v l i) (ue DD (AC (aK (f (Z9v l i)) Z5)+(1:Int))) (aW (Z9v l i) (aK (f (Z9v l i)) Z5) f) (Z9v l i)) Z5
def Z9t i l:=decide ((0:Int)<=i/\i<(↑(J (Cz l)):Int))
theorem qgC l out f c i E:(bif decide (i<Z9s l) then ob (Z9t i l) (ob (bE PR (27:I) (BC (Cz l) (Zs i))) (ob (bE PR (3:I) (aK (f (Z9v l i)) Z5)) (ob (decide (Z7<=AC (aK (f (Z9v l i)) Z5)+(1:Int)/\AC (aK (f (Z9v l i)) Z5)+(1:Int)<=Z8)) (ob (Z9t i l) (ob (bE PR (27:I) (BC (Cz l) (Zs i))) (ob (bE PR (3:I) (Z9w l i f)) (bif AC (Z9w l i f)==(1:Int) then ob (Z9t i l) (ob (bE PR (27:I) (BC (Cz l) (Zs i))) (ob (decide ((0:Int)<=i/\i<(↑(J (Jv l)):Int))) (ob (bE PR (27:I) (BC (Jv l) (Zs i))) (ob (Z9y out&&aB (jg out+J (Z9z l i)) 32) (ob (Zv i) (E (xz,AD 50 (Z9A l::Z9B l::(5,If 0 0 (jg out+J (Z9z l i)))::Z9D l i) ((0,we 0 Y (AS (143:I) C (Uz out++Z9z l i)))::Z9G l i f c)))))))) else ob (Zv i) (E (xz,AD 50 (Z9A l::Z9B l::(5,xT out)::Z9D l i) (Z9I out::Z9G l i f c)))))))))) else E (CE 0,AD 50 [(5,xT out)] [Z9I out]))=(aG [] [] 72 3 (ehH l out f c i)) E:=by kernel_rfl
def gEh:S->K (PX×S):=λh E=> ∃l,h=ehH l [] (λ_=>Y) 0 0/\J l<=1000000/\ ∀m,m=FA l->E (.exit 0,⟨50,[(5,.sl 0 0 (J m))],[(0,⟨0,Y,arH C m⟩)]⟩)
def qrU:bc:=λps R E=> ∃a b,ps=[.d (dX a),.d (dX b)]/\R=[]/\E (iD (vG a.1.1 a.1.2 b.1.1 b.1.2),[])
def Z9J(a:Hd):=Cs (AM [ue DD (ba (ba a)),ue DD (bl (ba a))])
theorem qnC a b E:(∃t r h l,[Z9J a,Z9J b]=Zp t r h l/\Zn/\E (Cs (ue DD (vG t r h l)),[]))=(aO [(69,Lc)] [] 119 [.d (dX a),.d (dX b)] []) E:=by kernel_rfl
def qap:=Cv 119 143 dX (λh:Hd=>h.1) (λa b=>pq a b)
def Z9N l:=[(0,we 0 (Z 0) (AS (143:I) C (aa dX l)))]
def FM h:=jg h<=1000000
def Z9K:=we 0 Y (HH 27 (λ_=>Y) (0:Int) C)
def Z9L h:=AD 50 [Z9A h,Z9B h,(5,ZV),Z9C,(14,Cs (ue DD (Z9s h))),(15,Cs Z5)] [(0,we 0 Y (AS (143:I) C [])),(1,Z9K)]
theorem qrV l E:(∃A,Z9L l=Z9L A/\FM A/\ ∀m,m=FA A-> ∃l,[xT m,P.fn (119:FuncId) []]=[xT l,P.fn (119:FuncId) []]/\Z9N m=Z9N l/\FM l/\ ∀h,List.Perm h l->List.Pairwise (λ(a b:Hd)=>pq (ba b) (ba a)=C) h->E (xT m,[Z9I h]))=(aO [(118,qap)] [(3,ah (aV 72 3) gEh)] 72 [Pt l,Pu l] []) E:=by kernel_rfl
def qaq:bc:=λps R E=> ∃l,ps=[Pt l,Pu l]/\R=[]/\J l<=1000000/\ ∀m,m=qJ l->E (.sl 0 0 (J m),[(0,⟨0,Y,arH C m⟩)])
abbrev qju(l out:List Hd)(had:Bool)(i k:Int):S:=⟨80,[(0,Ed l),(3,.sl 0 0 (J out)),(4,iD i),(5,.d (.bool had)),(6,iD k)],[(0,⟨0,Y,Dl C out⟩)]⟩
def FO out k:=BC (aa dX out) (Zs k)
def Z9Y i l:=decide ((0:Int)<=i/\i<(↑(J (aa dX l)):Int))
noncomputable def Vu out k:=bE PR (77:I) (FO out k)
def Z9V k out:=decide (Zs k<J (aa dX out))
def Z9U k out:=decide ((0:Int)<=k/\k<(↑(jg out):Int))
def Z9R out:=we 0 Y (AS (77:I) C (aa dX out))
def Nl out:=(0,Z9R out)
def Jw out:=[Nl out]
def Dm out:=(3,xT out)
def Mf l:=(0,Cs (IM 4 (aa dX l)))
def Z9O k out:=decide (k<(↑(jg out):Int))
theorem qjv l out had i k E:(bif Z9O k out then bif had then ob (Zv k) (E (xz,AD 80 (Mf l::Dm out::qO i::(5,ZT)::ZL k) (Jw out))) else ob (Z9U k out) (ob (Z9V k out) (ob (Vu out k) (ob (Z9Y i l) (ob (Vu l i) (ob (Zv k) (E (xz,AD 80 (Mf l::Dm out::qO i::(5,Cs (ID (AC (vc (FO out k) 0)==AC (vc (FO l i) 0)&&(AC (vc (FO out k) 1)==AC (vc (FO l i) 1)&&O))))::ZL k) (Jw out)))))))) else E (CE 2,AD 80 [Mf l,Dm out,qO i,(5,iF had)] (Jw out)))=(aG [] [] 27 7 (qju l out had i k)) E:=by kernel_rfl
abbrev qjw(l:List Hd)(L:List D)(n:Nat)(i k:Int):S:=⟨80,[(0,Ed l),(3,.sl 0 0 n),(4,iD i),(7,iD k)],[(0,⟨0,Y,.arr 77 C L⟩)]⟩
def Za3 L:=[(0,we 0 Y (AS (77:I) C L))]
def Z9Z L k:=ue DD (AC (vc (nT L k) 3))
def Za0 L k:=[H9 L k,H8 L k,RD L k,Z9Z L k]
def Za1 L k:=ue DD (AC (vc (Zb L k) 3))
def Za2 L k:=tz L (Zs k) (D.aY (AM (Za0 L k)) [Nk L k,Nj L k,Vo L k,Za1 L k])
theorem qjx l L n i k E:(bif ZF k then ob (Z9 k) (ob (wR k n) (ob (D9 k L) (ob (bE PR (77:I) (Zb L k)) (ob (jA k n) (ob (tA k L) (ob (bE PR (77:I) (nT L k)) (∃a b,[Cs (AM [Nk L k,Nj L k]),Cs (AM [H9 L k,H8 L k])]=wQ a::rR b/\Zn/\ ∀r,r=pq a b->bif r then ob (Z9 k) (ob (Z9 k) (ob (wR k n) (ob (D9 k L) (ob (bE PR (77:I) (Zb L k)) (ob (jA k n) (ob (tA k L) (ob (bE PR (77:I) (nT L k)) (ob (jA k n) (ob (tA k L) (ob (bE PR (77:I) (nT L k)) (ob (wR k n) (ob (decide (Za k<J (Za2 L k))) (ob (bE PR (77:I) (BC (Za2 L k) (Za k))) (ob (Z9 k) (E (xz,AD 80 [Mf l,(3,ZM n),qO i,(7,ZG k)] [(0,we 0 Y (AS (77:I) C (tz (Za2 L k) (Za k) (D.aY (AM [ue DD (AC (vc (BC (Za2 L k) (Za k)) 0)),ue DD (AC (vc (BC (Za2 L k) (Za k)) 1)),ue DD (AC (vc (BC (Za2 L k) (Za k)) 2)),ue DD (AC (vc (BC (Za2 L k) (Za k)) 3))]) (Za0 L k)))))])))))))))))))))) else E (CE 4,AD 80 (Mf l::(3,ZM n)::HU i) (Za3 L))))))))) else E (CE 4,AD 80 (Mf l::(3,ZM n)::HU i) (Za3 L)))=(aG [(53,Fq)] [] 27 13 (qjw l L n i k)) E:=by kernel_rfl
abbrev qjy(l out:List Hd)(i:Int):S:=⟨80,[(0,Ed l),(3,.sl 0 0 (J out)),(4,iD i)],[(0,⟨0,Y,Dl C out⟩)]⟩
abbrev qeE(l:List au)(out:List Hd)(i:Int):S:=⟨26,[(0,ey l),(3,.sl 0 0 (J out)),(4,iD i)],[(0,⟨0,Y,Dl C out⟩)]⟩
def Za4 l i:=[ue DD (AC (vc (su l i) 4)),ue DD (AC (vc (su l i) 5))]
def Za5 out l i:=jg out+J [AM (Ma l i::L9 l i::Za4 l i)]
theorem qjz l out i E:(bif Ju i l then ob (tB i l) (ob (nV l i) (ob (tB i l) (ob (nV l i) (ob (Z9y out&&aB (Za5 out l i) 32) (ob (Zv i) (E (xz,AD 26 (iG l::(3,If 0 0 (Za5 out l i))::Cu i) [(0,we 0 Y (AS (77:I) C (Uz out++[AM (Ma l i::L9 l i::Za4 l i)])))]))))))) else E (CE 0,AD 26 [Dm out] (Jw out)))=(aG [] [] 18 3 (qeE l out i)) E:=by kernel_rfl
theorem qrW h:bE PR 143 (dX h)=O:=by rfl
theorem Mg h:bE PR 77 (dX h)=O:=by rfl
def Ee(U:List aN)(o:List Hd):= ∀x,x∈U↔(o.any λy=>y.1==x)=O
theorem Ee.nil:Ee [] []:=λx=>by simp
theorem Ee.had{U o x}(h:Ee U o)(l:x∈U):Ee (x::U) o:=λy=>by
 rw[zao,h y];constructor
 ·rintro(rfl |h2)
  ·exact(h _).1 l
  exact h2
 grind
theorem Ee.new{U o g}(h:Ee U o):Ee (g.1::U) (o++[g]):=λy=>by rw[zao,h y,zcq,zbn];grind
theorem qar{l i}(h:i<J l):FA (l.take (i+1))=Nh (FA (l.take i)) l[i]:=by rw[zah h];grind [FA]
theorem qeF{o h}(l:(o.any λx=>x.1==h.1)=O):Nh o h=o:=by unfold Nh;rw[zau l]
theorem qeG{o h}(l:(o.any λx=>x.1==h.1)=C):Nh o h=o++[h]:=by unfold Nh;rw[zat (by rw[l];simp)]
theorem qnD:FC 119 qrU:=FC.mk (.cons qgc .nil) (by
 intro ps R E l;obtain⟨a,b,rfl,rfl,h⟩:=l
 (rw[<-qnC];delta Zn Zj Zk Zp Z9J)
 exact⟨_,_,_,_,rfl,rfl,h⟩)
def qrX:D->Hd
 | .agg [.int DD a,.int DD b,.int DD c,.int DD d]=>((a,b),(c,d))
 |_=>((0,0),(0,0))
section
variable{X:XF}
theorem qeH:FD X 118 qap:=Ai (dec:=qrX) (c:=λa b=>vG a.1.1 a.1.2 b.1.1 b.1.2)
 (λcf=>FD.M6 Tryz.func118 (by rfl) (by rfl) λps R E h=>jZ (gI h)) (λ_=>rfl) tu (λx y=>(Ru x.1 y.1).lt) (λ_=>⟨_,rfl⟩)
 (λx y=>FC.TJ qnD ⟨x,y,rfl,rfl,rfl⟩) ⟨_,Tryz.func119,by rfl,by rfl⟩
theorem qjA:LD X 72 3 (ah (aV 72 3) gEh):=LD.idx .nil .nil
 (A:=List Hd) (B:=List Hd×List aN×Int) (λl b i=>ehH l b.1 (cM b.2.1) b.2.2 i) (λl=>J l) (λl i b=>J l<=1000000/\b.1=FA (l.take i)/\Ee b.2.1 b.1/\J b.2.1<=i)
 (λl x=>x=(.exit 0,⟨50,[(5,.sl 0 0 (J (FA l)))],[(0,⟨0,Y,arH C (FA l)⟩)]⟩))
 (by
  rintro l ⟨o,U,c⟩ i E G H bB ⟨L,rfl,F,V⟩ Q ho;dsimp only at*
  (rw[<-qgC];delta Z9I jg xT Zs Cz Z9u Z9v Z5 k7 Z9F Z9G Uz Zz ZA Jv Z9s Z9C Z9D Z9B Z9A Z8 Z7 Zv Z9z Z9y Z9w Z9t)
  have e1:BC ((l.map (·.1)).map bX) i.toNat=bX l[i.toNat].1:=by rw[aA _ _ _ (by grind)];simp
  have e2:BC ((l.map (·.2)).map bX) i.toNat=bX l[i.toNat].2:=by rw[aA _ _ _ (by grind)];simp
  rw[e1,e2];simp only[ehH,zaa] at Q⊢;have FP:=qar bB;have uo:=H6 (l.take i.toNat);rw[zaG] at uo;generalize l[i.toNat]=g at FP;have v1: ∀n:Int,AC (iE n)=n:=λ_=>rfl;have t1:AM [ue DD (AC (vc (bX g.1) 0)),ue DD (AC (vc (bX g.1) 1))]=bX g.1:=rfl;have t2:AM [ue DD (AC (vc (bX g.1) 0)),ue DD (AC (vc (bX g.1) 1)),ue DD (AC (vc (bX g.2) 0)),ue DD (AC (vc (bX g.2) 1))]=dX g:=rfl;have g0:aK (cM U (bX g.1)) (.int DD 0)=iE (U.count g.1:Int):=rU U g.1;have A1:=zbu (a:=g.1) (l:=U);have u2:=λz=>RJ U g.1 z;have u3:=λz=>Ih U g.1 z;have g1:aK (cM (g.1::U) (bX g.1)) (.int DD 0)= .int DD ((U.count g.1:Int)+1):=by have:=rU (g.1::U) g.1;rw[zb1] at this;exact this
  have M7:(U.count g.1:Int)=0↔ ¬g.1∈U:=by rw[<-zc3];omega
  have R:0<=(U.count g.1:Int)/\(U.count g.1:Int)<=1000000:=by omega
  generalize (U.count g.1:Int)=cn at g0 u2 u3 g1 M7 R;rw[t1,g0];simp only[v1];refine dv (by omega) (ar ⟨G,H⟩ (ao (ph _) (ao (Md _) (ar (by omega) ?_))));rw[u2,g1,u3];refine ar ⟨G,H⟩ (ao (ph _) (ao (Md _) ?_));simp only[v1,zav,zaI,zaE];refine zp (λh2=> ?_) λh2=>ar (by omega) (Q (FA (l.take i.toNat),g.1::U,_) ⟨L,?_,F.had ?_,zb4 V⟩)
  ·refine ar ⟨G,H⟩ (ao (ph _) (ar ⟨G,H⟩ (ao (ph _) (ao ?_ (ar (by omega) ?_)))))
   ·rw[zac];exact⟨by simp,dw (by omega) (by omega)⟩
   have M8:((FA (l.take i.toNat)).any λx=>x.1==g.1)=C:=by rw[<-zbv,<-F g.1];grind
   have:=λc':Int=>Q (FA (l.take i.toNat)++[g],g.1::U,c') ⟨L,by rw[FP,qeG M8],F.new,zb4 V⟩;rw[t2,bx];grind
  ·have hx:g.1∈U:=zbz λh=>by have:=M7.2 h;omega
   rw[FP,qeF ((F g.1).1 hx)]
  grind)
 (by
  rintro l ⟨o,U,c⟩ i E hi ⟨L,rfl,F,V⟩ ho
  (rw[<-qgC];delta Z9I jg xT Zs Cz Z9u Z9v Z5 k7 Z9F Z9G Uz Zz ZA Jv Z9s Z9C Z9D Z9B Z9A Z8 Z7 Zv Z9z Z9y Z9w Z9t)
  simp only[zaa];refine b8 (λh=>by omega) λh=>ho _ (λh=>by cases h) ?_;rw[zan])
 (by rintro s E ⟨l,rfl,hs,hp⟩;refine⟨l,([],[],0),by rw[Ig],⟨hs,rfl,Ee.nil,by simp⟩,?_⟩;grind)
theorem qeI:FD X 72 qaq:=IN (.cons qeH .nil) (.cons qjA .nil) (by
 intro ps R E G;obtain⟨l,rfl,rfl,F,L⟩:=G
 (rw[<-qrV];delta Z9I Z9N jg xT FM Z9K Z5 Jv Cz Z9s Z9C ZV Z9B Z9A Z9L)
 have JL:=H6 l;refine⟨l,rfl,F,λm A=>⟨m,rfl,rfl,by rw[A];omega,λH B h=> ?_⟩⟩;subst A;have e:=qd7 B h;rw[<-B.length_eq,e];grind)
end
def Il(t:Td):D:= .agg [iE t.1.1,iE t.1.2.1,iE t.1.2.2,iE t.2.1.1,iE t.2.1.2.1,iE t.2.1.2.2,iE t.2.2.1.1,iE t.2.2.1.2.1,iE t.2.2.1.2.2,.str t.2.2.2.1,.bool t.2.2.2.2]
abbrev UA(z:Bool)(l:List Td):Obj:= .arr 151 z (l.map Il)
abbrev mpI(f:D->Option D)(c:Int):Obj:= .map 49 f c C
abbrev tnP(l:List Td):=cF (l.map (·.1))
abbrev tpP(l:List Td):=ew (l.map (·.2))
abbrev psH(l out:List Td)(f:D->Option D)(c i:Int):S:=⟨50,[(0,tnP l),(1,tpP l),(5,.sl 0 0 (J out)),(6,.mp 1 0),(14,iD (min (J ((l.map (·.1)).map aF):Int) (J ((l.map (·.2)).map bI):Int))),(15,iD i)],[(0,⟨0,Y,UA C out⟩),(1,⟨0,Y,mpI f c⟩)]⟩
def Zam out:=we 0 Y (AS (151:I) C (aa Il out))
def oK(out:List Td):=J out
def CA out:=(5,If 0 0 (oK out))
def Ef l:=aa aF (aa (λ(x:Td)=>ba x) l)
def Zaa l i:=ue DD (AC (vc (BC (Ef l) (Zs i)) 0))
def Zab l i:=AM [Zaa l i,ue DD (AC (vc (BC (Ef l) (Zs i)) 1)),ue DD (AC (vc (BC (Ef l) (Zs i)) 2))]
def Zaj l i:=AM [Zaa l i,ue DD (AC (vc (BC (Ef l) (Zs i)) k7)),ue DD (AC (vc (BC (Ef l) (Zs i)) (k7+1)))]
def Zak l i f c:=[(1,we 0 Y (HH 49 (λh=>bif NO (Zaj l i) h then Z (ue DD (AC (aK (f (Zaj l i)) Z5)+(1:Int))) else aW (Zaj l i) (aK (f (Zaj l i)) Z5) f h) (bif ir (f (Zab l i)) then c else c+(1:Int)) C))]
def Vv l:=aa bI (aa (λ(x:Td)=>bl x) l)
def Za8 l:=min (↑(J (Ef l)):Int) (↑(J (Vv l)):Int)
def Zai l i:=[Z9C,(14,Cs (ue DD (Za8 l))),(15,ZA i)]
def Zah l:=(1,Cs (IM 8 (Vv l)))
def Zag l:=(0,Cs (IM 3 (Ef l)))
def Zad l i:=BC (Vv l) (Zs i)
def Zaf l i:=[AM [Zaa l i,ue DD (AC (vc (BC (Ef l) (Zs i)) 1)),ue DD (AC (vc (BC (Ef l) (Zs i)) 2)),ue DD (AC (vc (Zad l i) 0)),ue DD (AC (vc (Zad l i) 1)),ue DD (AC (vc (Zad l i) 2)),ue DD (AC (vc (Zad l i) 3)),ue DD (AC (vc (Zad l i) 4)),ue DD (AC (vc (Zad l i) 5)),FS (Q1 (vc (Zad l i) 6)),ID (Q3 (vc (Zad l i) 7))]]
def Zac l i f:=aK (aW (Zab l i) (ue DD (AC (aK (f (Zab l i)) Z5)+(1:Int))) (aW (Zab l i) (aK (f (Zab l i)) Z5) f) (Zab l i)) Z5
def Za9 i l:=decide ((0:Int)<=i/\i<(↑(J (Ef l)):Int))
theorem qgD l out f c i E:(bif decide (i<Za8 l) then ob (Za9 i l) (ob (bE PR (49:I) (BC (Ef l) (Zs i))) (ob (bE PR (3:I) (aK (f (Zab l i)) Z5)) (ob (decide (Z7<=AC (aK (f (Zab l i)) Z5)+(1:Int)/\AC (aK (f (Zab l i)) Z5)+(1:Int)<=Z8)) (ob (Za9 i l) (ob (bE PR (49:I) (BC (Ef l) (Zs i))) (ob (bE PR (3:I) (Zac l i f)) (bif AC (Zac l i f)==(1:Int) then ob (Za9 i l) (ob (bE PR (49:I) (BC (Ef l) (Zs i))) (ob (decide ((0:Int)<=i/\i<(↑(J (Vv l)):Int))) (ob (bE PR (108:I) (Zad l i)) (ob (gr (oK out) (J (aa Il out))&&aB (oK out+J (Zaf l i)) 96) (ob (Zv i) (E (xz,AD 50 (Zag l::Zah l::(5,If 0 0 (oK out+J (Zaf l i)))::Zai l i) ((0,we 0 Y (AS (151:I) C (ab (oK out) (aa Il out)++Zaf l i)))::Zak l i f c)))))))) else ob (Zv i) (E (xz,AD 50 (Zag l::Zah l::CA out::Zai l i) ((0,Zam out)::Zak l i f c)))))))))) else E (CE 0,AD 50 [CA out] [(0,Zam out)]))=(aG [] [] 74 3 (psH l out f c i)) E:=by kernel_rfl
def CB(o:List Td) t:=if(o.any λx=>x.1==t.1)=O then o else o++[t]
def Pv(l:List Td):=l.foldl CB []
def gPs:S->K (PX×S):=λh E=> ∃l,h=psH l [] (λ_=>Y) 0 0/\J l<=1000000/\ ∀m,m=Pv l->E (.exit 0,⟨50,[(5,.sl 0 0 (J m))],[(0,⟨0,Y,UA C m⟩)]⟩)
def qrY:bc:=λps R E=> ∃a b,ps=[.d (Il a),.d (Il b)]/\R=[]/\E (iD (lj a.1.1 a.1.2.1 a.1.2.2 b.1.1 b.1.2.1 b.1.2.2),[])
def Zao(a:Td):=Cs (AM [ue DD (ba (ba a)),ue DD (ba (bl (ba a))),ue DD (bl (bl (ba a)))])
theorem qnE a b E:(∃t r i h l A,[Zao a,Zao b]=Cs (AM (Zj t::Zj r::Zk i))::sM h l A/\Zn/\E (Cs (ue DD (lj t r i h l A)),[]))=(aO [(78,mG)] [] 121 [.d (Il a),.d (Il b)] []) E:=by kernel_rfl
def RT:=Cv 121 151 Il (λh:Td=>h.1) (λa b=>kr a b)
def Zas l:=[(0,we 0 (Z 0) (AS (151:I) C (aa Il l)))]
def Zar l:=[If 0 0 (oK l),P.fn (121:FuncId) []]
def Vw h:=oK h<=1000000
def Zap h:=AD 50 [Zag h,Zah h,(5,ZV),Z9C,(14,Cs (ue DD (Za8 h))),(15,Cs Z5)] [(0,we 0 Y (AS (151:I) C [])),(1,Dd)]
theorem qrZ l E:(∃A,Zap l=Zap A/\Vw A/\ ∀m,m=Pv A-> ∃l,Zar m=Zar l/\Zas m=Zas l/\Vw l/\ ∀h,List.Perm h l->List.Pairwise (λ(a b:Td)=>kr (ba b) (ba a)=C) h->E (If 0 0 (oK m),[(0,Zam h)]))=(aO [(120,RT)] [(3,ah (aV 74 3) gPs)] 74 [tnP l,tpP l] []) E:=by kernel_rfl
def qnF:bc:=λps R E=> ∃l,ps=[tnP l,tpP l]/\R=[]/\J l<=1000000/\ ∀m,m=l.foldl Ic []->E (.sl 0 0 (J m),[(0,⟨0,Y,UA C m⟩)])
theorem qr0 h:bE PR 151 (Il h)=O:=by rfl
def Eg(U:List ak)(o:List Td):= ∀x,x∈U↔(o.any λy=>y.1==x)=O
theorem Eg.nil:Eg [] []:=λx=>by simp
theorem Eg.had{U o x}(h:Eg U o)(l:x∈U):Eg (x::U) o:=λy=>by
 rw[zao,h y];constructor
 ·rintro(rfl |h2)
  ·exact(h _).1 l
  exact h2
 grind
theorem Eg.new{U o g}(h:Eg U o):Eg (g.1::U) (o++[g]):=λy=>by rw[zao,h y,zcq,zbn];grind
theorem qas{l i}(h:i<J l):Pv (l.take (i+1))=CB (Pv (l.take i)) l[i]:=by rw[zah h];grind [Pv]
theorem Mh{o h}(l:(o.any λx=>x.1==h.1)=O):CB o h=o:=by unfold CB;rw[zau l]
theorem Mi{o h}(l:(o.any λx=>x.1==h.1)=C):CB o h=o++[h]:=by unfold CB;rw[zat (by rw[l];simp)]
theorem qat o t:J (CB o t)<=J o+1:=by grind [CB]
theorem Im l:J (Pv l)<=J l:=by
 have: ∀(l o:List Td),J (l.foldl CB o)<=J o+J l:=by
  intro l
  induction l with
  |nil=>simp
  |cons x r ih=>grind [CB,qat]
 grind [Pv]
def UqT(o:List Td):=(o.map (·.1)).Nodup
theorem qeJ{a b:List Td}(h:a.Perm b)(t:Td):(a.any λx=>x.1==t.1)=(b.any λx=>x.1==t.1):=by grind
theorem wh: ∀(l a b:List Td),a.Perm b->UqT a->a.Pairwise (λx y=>ltT y x=C)->(l.foldl Ic a).Perm (l.foldl CB b)/\UqT (l.foldl Ic a)/\(l.foldl Ic a).Pairwise (λx y=>ltT y x=C)
 | [],_,_,h,hu,hp=>⟨h,hu,hp⟩
 |t::l,a,b,h,hu,hp=>by
  simp only[zbh];have e:=qeJ h t;cases A:(b.any λx=>x.1==t.1) with
  |true=>rw[Mh A,show Ic a t=a from zau (e.trans A)];exact wh l a b h hu hp
  |false=>rw[Mi A,show Ic a t=fU ltT a t from zat (by rw[e,A];simp)];have B:(fU ltT a t).Perm (a++[t]):=iV a t;refine wh l _ _ (B.trans (h.append_right _)) ?_ (Mj hp);unfold UqT;rw[(B.map _).nodup_iff,zaC,zbx];refine⟨hu,by simp,λx Q y L=> ?_⟩;grind
where
 Mj {a:List Td} {t:Td} (hp:a.Pairwise (λx y=>ltT y x=C)):(fU ltT a t).Pairwise (λx y=>ltT y x=C):=by
  have H:(a.map (·.1)).Pairwise (λx y=>kr y x=C):=by rw[za1];exact hp
  have F:=zZ fR t.1 H;have G:(fU ltT a t).map (·.1)=fU kr (a.map (·.1)) t.1:=by unfold fU;rw[zbI];exact(congrArg th (vP (lt:=kr) (λx:Td=>x.1) t a.reverse)).trans (by rw[zbI])
  rw[<-G,za1] at F;exact F
theorem qjB{l m:List Td}(G:m.Perm (Pv l))(H:m.Pairwise λx y=>kr y.1 x.1=C):m=l.foldl Ic []:=by obtain⟨h,A,L⟩:=wh l [] [] (.refl _) (by simp[UqT]) .nil;refine kb fR (λx:Td=>x.1) ?_ (G.trans h.symm) H L;have hu:(m.map (·.1)).Nodup:=((G.trans h.symm).map _).nodup_iff.2 A;intro x B y F e;exact qjC hu x B y F e
where
 qjC {m:List Td} (hu:(m.map (·.1)).Nodup): ∀x∈m,∀y∈m,x.1=y.1->x=y:=by
  induction m with
  |nil=>intro x B;cases B
  |cons a r ih=>
   rw[zaS,zaU] at hu;intro x B y F e;rcases zao.1 B with h |h<;>rcases zao.1 F with A |A
   ·rw[h,A]
   ·subst h;exact absurd (e▸za5 A) hu.1
   ·subst A;exact absurd (e▸za5 h) hu.1
   exact ih hu.2 x h y A e
theorem qnG:FC 121 qrY:=FC.mk (.cons zT .nil) (by
 intro ps R E l;obtain⟨a,b,rfl,rfl,h⟩:=l
 (rw[<-qnE];delta Zn Zj Zk sM Zao)
 exact⟨_,_,_,_,_,_,rfl,rfl,h⟩)
def qr1:D->Td
 | .agg [.int DD a,.int DD b,.int DD c,.int DD d,.int DD e,.int DD f,.int DD g,.int DD h,.int DD i,.str s,.bool z]=>((a,b,c),((d,e,f),(g,h,i),s,z))
 |_=>((0,0,0),((0,0,0),(0,0,0),[],C))
section
variable{X:XF}
theorem qau:FD X 120 RT:=Ai (dec:=qr1) (c:=λa b=>lj a.1.1 a.1.2.1 a.1.2.2 b.1.1 b.1.2.1 b.1.2.2)
 (λcf=>FD.M6 Tryz.func120 (by rfl) (by rfl) λps R E h=>jZ (gI h)) (λ_=>rfl) fR (λx y=>vN x.1 y.1) (λ_=>⟨_,rfl⟩)
 (λx y=>FC.TJ qnG ⟨x,y,rfl,rfl,rfl⟩) ⟨_,Tryz.func121,by rfl,by rfl⟩
theorem qjD:LD X 74 3 (ah (aV 74 3) gPs):=LD.idx .nil .nil
 (A:=List Td) (B:=List Td×List ak×Int) (λl b i=>psH l b.1 (cI b.2.1) b.2.2 i) (λl=>J l) (λl i b=>J l<=1000000/\b.1=Pv (l.take i)/\Eg b.2.1 b.1/\J b.2.1<=i)
 (λl x=>x=(.exit 0,⟨50,[(5,.sl 0 0 (J (Pv l)))],[(0,⟨0,Y,UA C (Pv l)⟩)]⟩))
 (by
  rintro l ⟨o,U,c⟩ i E G H bB ⟨L,rfl,F,V⟩ Q ho;dsimp only at*
  (rw[<-qgD];delta Zam oK CA Zs Ef Zaa Zab Z5 k7 Zaj Zak Zz ZA Vv Za8 Z9C Zai Zah Zag Z8 Z7 Zv Zad Zaf Zac Za9)
  have e1:BC ((l.map (·.1)).map aF) i.toNat=aF l[i.toNat].1:=by rw[aA _ _ _ (by grind)];simp
  have e2:BC ((l.map (·.2)).map bI) i.toNat=bI l[i.toNat].2:=by rw[aA _ _ _ (by grind)];simp
  rw[e1,e2];simp only[psH,zaa] at Q⊢;have FP:=qas bB;have uo:=Im (l.take i.toNat);rw[zaG] at uo;generalize l[i.toNat]=g at FP;have v1: ∀n:Int,AC (iE n)=n:=λ_=>rfl;have t1:AM [ue DD (AC (vc (aF g.1) 0)),ue DD (AC (vc (aF g.1) 1)),ue DD (AC (vc (aF g.1) 2))]=aF g.1:=rfl;have g0:aK (cI U (aF g.1)) (.int DD 0)=iE (U.count g.1:Int):=Cw U g.1;have A1:=zbu (a:=g.1) (l:=U);have u2:=λz=>qen U g.1 z;have u3:=λz=>Pp U g.1 z;have g1:aK (cI (g.1::U) (aF g.1)) (.int DD 0)= .int DD ((U.count g.1:Int)+1):=by have:=Cw (g.1::U) g.1;rw[zb1] at this;exact this
  have M7:(U.count g.1:Int)=0↔ ¬g.1∈U:=by rw[<-zc3];omega
  have R:0<=(U.count g.1:Int)/\(U.count g.1:Int)<=1000000:=by omega
  generalize (U.count g.1:Int)=cn at g0 u2 u3 g1 M7 R;rw[t1,g0];simp only[v1];refine dv (by omega) (ar ⟨G,H⟩ (ao (jG _) (ao (Md _) (ar (by omega) ?_))));rw[u2,g1,u3];refine ar ⟨G,H⟩ (ao (jG _) (ao (Md _) ?_));simp only[v1,zav,zaI,zaE];refine zp (λh2=> ?_) λh2=>ar (by omega) (Q (Pv (l.take i.toNat),g.1::U,_) ⟨L,?_,F.had ?_,zb4 V⟩)
  ·refine ar ⟨G,H⟩ (ao (jG _) (ar ⟨G,H⟩ (ao (fJ _) (ao ?_ (ar (by omega) ?_)))))
   ·rw[zac];exact⟨by simp,dw (by omega) (by omega)⟩
   have M8:((Pv (l.take i.toNat)).any λx=>x.1==g.1)=C:=by rw[<-zbv,<-F g.1];grind
   have:=λc':Int=>Q (Pv (l.take i.toNat)++[g],g.1::U,c') ⟨L,by rw[FP,Mi M8],F.new,zb4 V⟩;have p0:=bx Il (Pv (l.take i.toNat)) g;simp only[UA,zaf,zav,zaI,zaE] at this;rw[<-p0] at this;exact this _
  ·have hx:g.1∈U:=zbz λh=>by have:=M7.2 h;omega
   rw[FP,Mh ((F g.1).1 hx)]
  grind)
 (by
  rintro l ⟨o,U,c⟩ i E hi ⟨L,rfl,F,V⟩ ho
  (rw[<-qgD];delta Zam oK CA Zs Ef Zaa Zab Z5 k7 Zaj Zak Zz ZA Vv Za8 Z9C Zai Zah Zag Z8 Z7 Zv Zad Zaf Zac Za9)
  simp only[zaa];refine b8 (λh=>by omega) λh=>ho _ (λh=>by cases h) ?_;rw[zan])
 (by rintro s E ⟨l,rfl,hs,hp⟩;refine⟨l,([],[],0),by rw[Po],⟨hs,rfl,Eg.nil,by simp⟩,?_⟩;grind)
theorem qnH:FD X 74 qnF:=IN (.cons qau .nil) (.cons qjD .nil) (by
 intro ps R E G;obtain⟨l,rfl,rfl,F,L⟩:=G
 (rw[<-qrZ];delta Zam oK Zas Zar Vw M9 Dd Z5 Vv Ef Za8 Z9C ZV Zah Zag Zap)
 have JL:=Im l;refine⟨l,rfl,F,λm A=>⟨m,rfl,rfl,by rw[A];omega,λH B h=> ?_⟩⟩;subst A;have e:=qjB B h;rw[<-B.length_eq,e];grind)
end
theorem Io{T x}(h:bp T x=Y): ∀p∈T,p.1≠x:=λp l e=>by have:=zcx.1 h p l;grind
theorem An{a b}(hu:Uq a)(h:a.Perm b):Uq b:=((h.map _).nodup_iff).1 hu
theorem UB{a b}(hu:Uq a)(h:a.Perm b) x:bp a x=bp b x:=by
 cases e:bp a x with
 |some p=>obtain⟨l,rfl⟩:=cw e;grind [im,An]
 |none=>grind [bp,cw,Io]
theorem qav{a b}(hu:Uq a)(h:a.Perm b):cX a=cX b:=by show yS bI (bp a)=yS bI (bp b);rw[funext (UB hu h)]
theorem qaw{T k v}(h:cX T k=Z v): ∃p∈T,k=aF p.1/\v=bI p:=by
 replace h:yS bI (bp T) k=Z v:=h
 unfold yS at h;split at h
 next a b c=>
  cases e:bp T (a,b,c) with
  |none=>rw[e] at h;cases h
  |some p=>rw[e] at h;obtain⟨l,A⟩:=cw e;exact⟨p,l,by rw[A];rfl,(zaT h).symm⟩
 cases h
theorem qax{T}(h: ∀k,cX T k=Y):T=[]:=by
 cases T with
 |nil=>rfl
 |cons p r=>have:=h (aF p.1);rw[oD] at this;grind [bp]
def sQ(T:List Pl) x:=T.filter λp=> !(p.1==x)
theorem qeK{T}(hu:Uq T) x:Uq (sQ T x):=List.Nodup.sublist (zb6.map _) hu
theorem qay{T p}(h:p∈T):J (sQ T p.1)<J T:=by grind [sQ,Nat.lt_of_le_of_ne,List.length_filter_le,List.length_filter_eq_length_iff]
theorem qaz T {x y}(h:y≠x):bp (sQ T x) y=bp T y:=by grind [bp,sQ]
theorem qeL T x:iq (aF x) (cX T)=cX (sQ T x):=by
 funext d;by_cases e:aF x=d
 ·grind [sa,oD,bp,sQ]
 rw[zH _ e];show yS bI (bp T) d=yS bI (bp (sQ T x)) d;unfold yS;split
 next a b c=>have l:(a,b,c)≠x:=λh=>e (by rw[<-h];rfl);rw[qaz T l]
 rfl
theorem UC{T}(hu:Uq T){p}(h:p∈T):(p::sQ T p.1).Perm T:=by
 induction T with
 |nil=>cases h
 |cons a r ih=>
  unfold Uq at hu;rw[zaS,zaU] at hu;rcases zao.1 h with rfl |h
  ·have:sQ (p::r) p.1=r:=by grind [sQ,List.filter_cons_of_neg,List.filter_eq_self,List.mem_map_of_mem]
   rw[this]
  have l:a.1≠p.1:=λe=>hu.1 (e▸za5 h);have:sQ (a::r) p.1=a::sQ r p.1:=by unfold sQ;rw[zdr (by simp[l])]
  rw[this];exact(List.Perm.swap a p _).trans ((ih hu.2 h).cons a)
theorem qeM{o x}(h:0<=eJ o x): ∃(i:Nat) (l:i<J o),eJ o x=(i:Int)/\o[i].1=x:=by
 rcases ur (λp:Pl=>p.1==x) o with⟨i,p,h1,h2,h3⟩| ⟨h1,_⟩
 ·obtain⟨l,e⟩:=zab.1 h1;exact⟨i,l,h3,by grind⟩
 grind [eJ]
theorem Mk{o x}:0<=eJ o x↔(bp o x).isSome=O:=by unfold eJ bp;rw[HV,List.find?_isSome]
theorem Ip{o:List Pl}{i}(h:i<J o){q}(e:q.1=o[i].1):(o.set i q).map (·.1)=o.map (·.1):=by apply zbU (by simp);grind
theorem qeN{o}(hu:Uq o){i}(G:i<J o){q}(e:q.1=o[i].1):aW (aF q.1) (bI q) (cX o)=cX (o.set i q):=by
 refine zX bI (bp o) (bp (o.set i q)) q.1 q ?_ ?_
 ·grind [im,List.mem_set,Uq,Ip]
 intro y B;cases A:bp o y with
 |some p=>obtain⟨h,rfl⟩:=cw A;refine im (T:=o.set i q) (by grind [Uq,Ip]) ?_;obtain⟨j,F,l⟩:=List.mem_iff_getElem.1 h;refine List.mem_iff_getElem.2 ⟨j,by grind,?_⟩;grind
 |none=>grind [bp,cw,Io]
structure Ml(o:List Pl):Prop where
 uq:Uq o
 pw:o.Pairwise λa b=>kr b.1 a.1=C
theorem Ml.nil:Ml []:=⟨by simp[Uq],.nil⟩
theorem qeO{a p}(l:a.Pairwise λx y=>kr y.1 x.1=C):(fU ltN a p).Pairwise λx y=>kr y.1 x.1=C:=by
 have B:(a.map (·.1)).Pairwise (λx y=>kr y x=C):=by rw[za1];exact l
 have h:=zZ fR p.1 B;have A:(fU ltN a p).map (·.1)=fU kr (a.map (·.1)) p.1:=by unfold fU;rw[zbI];exact(congrArg th (vP (lt:=kr) (λx:Pl=>x.1) p a.reverse)).trans (by rw[zbI])
 rw[<-A,za1] at h;exact h
theorem Ml.step{o}(h:Ml o) t:Ml (Jt o t)/\((t.2.1=aJ\/within o t.2.2.1 t.2.1=O)->Jt o t=o)/\
  (¬(t.2.1=aJ\/within o t.2.2.1 t.2.1=O)->(∀p,bp o t.2.1=Z p->aW (aF t.2.1) (bI (t.2.1,t.2.2.1,t.2.2.2.1,p.2.2.2)) (cX o)=cX (Jt o t)/\J (Jt o t)=J o)/\
   (bp o t.2.1=Y->aW (aF t.2.1) (bI t.2) (cX o)=cX (Jt o t)/\J (Jt o t)=J o+1)):=by
 by_cases A:t.2.1=aJ\/within o t.2.2.1 t.2.1=O
 ·have e:Jt o t=o:=zau A;grind
 by_cases G:0<=eJ o t.2.1
 ·obtain⟨i,B,e1,H⟩:=qeM G;have e:Jt o t=o.set i (t.2.1,t.2.2.1,t.2.2.2.1,o[i].2.2.2):=by grind [Jt]
  have R:=Ip B (q:=(t.2.1,t.2.2.1,t.2.2.2.1,o[i].2.2.2)) H.symm;rw[e];refine⟨⟨by unfold Uq;rw[R];exact h.uq,?_⟩,λF=>absurd F A,λ_=>⟨λp l=>⟨?_,by simp⟩,λhn=> ?_⟩⟩
  ·have:(o.map (·.1)).Pairwise (λa b=>kr b a=C):=by rw[za1];exact h.pw
   rw[<-R,za1] at this;exact this
  ·have:bp o t.2.1=Z o[i]:=by rw[<-H];exact im h.uq (zay B)
   rw[l] at this;cases this;exact qeN h.uq B (q:=(t.2.1,t.2.2.1,t.2.2.2.1,o[i].2.2.2)) H.symm
  grind [Mk]
 have U:bp o t.2.1=Y:=by rw[Mk] at G;simp_all
 have e:Jt o t=fU ltN o t.2:=by unfold Jt;rw[zat A,zat G]
 have Q:(fU ltN o t.2).Perm (o++[t.2]):=iV o t.2;have hu:Uq (o++[t.2]):=by unfold Uq;rw[zaC,zbx];refine⟨h.uq,by simp,λx hx y L=> ?_⟩;rw[List.map_singleton,zaN] at L;subst L;obtain⟨z,V,rfl⟩:=zal.1 hx;exact Io U z V
 rw[e];refine⟨⟨An hu Q.symm,qeO h.pw⟩,λF=>absurd F A,λ_=>⟨λp l=> ?_,λ_=>⟨?_,by rw[Q.length_eq];simp⟩⟩⟩
 ·rw[U] at l;cases l
 grind [qav,An,Lp]
theorem RU: ∀(l:List Td) (o:List Pl),Ml o->Ml (l.foldl Jt o)
 | [],_,h=>h
 |t::l,_,h=>RU l _ (h.step t).1
theorem Iq l:Ml (Ag l):=RU l [] .nil
theorem qaA{t i}(h:i<J t):Ag (t.take (i+1))=Jt (Ag (t.take i)) t[i]:=by rw[zah h];grind [Ag]
theorem qjE{l m}(A:m.Perm (Ag l))(G:m.Pairwise λx y=>kr y.1 x.1=C):m=Ag l:=by have h:=Iq l;have hu:Uq m:=An h.uq A.symm;refine kb fR (λx:Pl=>x.1) (λx F y B e=> ?_) A G h.pw;have L:=im hu F;have H:=im hu B;grind
abbrev qnI(x:ak):Obj:= .box 49 [iD x.1,iD x.2.1,iD x.2.2]
abbrev qaB(z:Bool)(l:List Pl):Obj:= .arr 108 z (l.map bI)
abbrev qjF(f:D->Option D)(c:Int)(x up:ak)(n i:Int):S:=⟨30,[(0,.mp 0 0),(5,.ref 1 0 0),(6,.ref 2 0 0),(11,iD n),(12,iD i)],[(0,⟨0,Z 0,mpI f c⟩),(1,⟨0,Y,qnI x⟩),(2,⟨0,Y,qnI up⟩)]⟩
def Zav f c:=(0,we 0 (Z 0) (qw f c))
def CC:=P.mp 0 0
def Zau:=(0,CC)
def Zaw(E:PX×S->Prop) f c:=E (CE 0,AD 30 [Zau] [Zav f c])
theorem qjG f c x up n i E:(bif Zh i n then ob (bE PR (108:I) (aK (f (fe x)) uL)) (bif Z6Z x up then Zaw E f c else bif !ir (f (fe x)) then E (Q2,AD 30 [Zau,(8,Cs Z2)] [Zav f c]) else ob (Zv i) (E (xz,AD 30 [Zau,Z74,(6,qh),(11,Zl n),(12,ZA i)] [Zav f c,(1,Z2K f x),D7 up]))) else Zaw E f c)=(aG [] [] 75 2 (qjF f c x up n i)) E:=by kernel_rfl
def qr2:S->K (PX×S):=λs E=> ∃T c x up n,s=qjF (cX T) c x up n 0/\(0<=n/\n<=1000001)/\(dI T n.toNat x up=O->E (.exit 0,⟨30,[(0,.mp 0 0)],[(0,⟨0,Z 0,mpI (cX T) c⟩)]⟩))/\(dI T n.toNat x up=C->E (.ret,⟨30,[(0,.mp 0 0),(8,.d (.bool C))],[(0,⟨0,Z 0,mpI (cX T) c⟩)]⟩))
def Zay T h:=HH 49 (λx=>match x with |AM [ue DD a,ue DD b,ue DD c]=>i7 bI (bp T (a,b,c))|_=>Y) h C
def Zaz T h:=[(0,we 0 (Z 0) (Zay T h))]
def qnJ:bc:=λps R E=> ∃T c x up n,ps=[.mp 0 0,.d (aF x),.d (aF up),iD n]/\R=[(0,⟨0,Z 0,mpI (cX T) c⟩)]/\(0<=n/\n<=1000001)/\ ∀b,b=dI T n.toNat x up->E (.d (.bool b),[(0,⟨0,Z 0,mpI (cX T) c⟩)])
abbrev re3(m:List Td)(f:D->Option D)(c i:Int):S:=⟨72,[(5,.mp 0 0),(17,.sl 1 0 (J m)),(18,iD (J m:Int)),(19,iD i)],[(0,⟨0,Y,mpI f c⟩),(1,⟨0,Y,UA C m⟩)]⟩
def Pw:=(5,CC)
def ZaK:=[Pw]
def Ao m i:=BC (aa Il m) (Zs i)
def ZaJ m i:=ue DD (AC (vc (Ao m i) Na))
def ZaI m i:=ue DD (AC (vc (Ao m i) (B1+1)))
def ZaH m i:=ue DD (AC (vc (Ao m i) B1))
def ZaG m i:=AM [ue DD (AC (vc (Ao m i) 3)),ue DD (AC (vc (Ao m i) 4)),ue DD (AC (vc (Ao m i) 5))]
def ZaF m:=[(1,Zam m)]
def ZaE m i:=[Pw,(17,If 1 0 (oK m)),(18,Cs (ue DD (↑(oK m):Int))),(19,ZA i)]
def ZaB i m:=decide ((0:Int)<=i/\i<(↑(oK m):Int))
def ZaA i m:=decide (i<(↑(oK m):Int))
theorem qgE m f c i E:(bif ZaA i m then ob (ZaB i m) (ob (decide (Zs i<J (aa Il m))) (ob (bE PR (151:I) (Ao m i)) (bif AC (vc (Ao m i) 3)==(0:Int)&&(AC (vc (Ao m i) 4)==(0:Int)&&O)&&(AC (vc (Ao m i) 5)==(0:Int)&&O) then ob (Zv i) (E (xz,AD 72 (ZaE m i) ((0,I6 f c)::ZaF m))) else ob (Zv c) (∃T h x up n,[CC,Cs (AM [ue DD (AC (vc (Ao m i) 6)),ue DD (AC (vc (Ao m i) 7)),ue DD (AC (vc (Ao m i) 8))]),Cs (ZaG m i),ZA c]=CC::Cs (fe x)::Cs (fe up)::Zm n/\[Zav f c]=Zaz T h/\((0:Int)<=n/\n<=(1000001:Int))/\ ∀b,b=dI T (Zs n) x up->bif b then ob (Zv i) (E (xz,AD 72 (ZaE m i) ((0,we 0 Y (Zay T h))::ZaF m))) else ob (bE PR (108:I) (aK (cX T (ZaG m i)) uL)) (bif ir (cX T (ZaG m i)) then ob (Zv i) (E (xz,AD 72 (ZaE m i) ((0,we 0 Y (HH 49 (λl=>bif NO (AM [ZaH m i,ZaI m i,ZaJ m i]) l then Z (AM [ZaH m i,ZaI m i,ZaJ m i,ue DD (AC (vc (Ao m i) (Na+1))),ue DD (AC (vc (Ao m i) OT)),ue DD (AC (vc (Ao m i) (OT+1))),FS (Q1 (vc (Ao m i) (OT+1+1))),ID (Q3 (vc (aK (cX T (AM [ZaH m i,ZaI m i,ZaJ m i])) Z3G) OT))]) else cX T l) (bif ir (cX T (ZaG m i)) then h else h+(1:Int)) C))::ZaF m))) else ob (Zv i) (E (xz,AD 72 (ZaE m i) ((0,we 0 Y (HH 49 (λl=>bif NO (AM [ZaH m i,ZaI m i,ZaJ m i]) l then Z (AM [ZaH m i,ZaI m i,ZaJ m i,ue DD (AC (vc (Ao m i) (Na+1))),ue DD (AC (vc (Ao m i) OT)),ue DD (AC (vc (Ao m i) (OT+1))),FS (Q1 (vc (Ao m i) (OT+1+1))),ID (Q3 (vc (Ao m i) (OT+1+1+1)))]) else cX T l) (bif ir (cX T (ZaG m i)) then h else h+(1:Int)) C))::ZaF m)))))))) else E (CE 0,AD 72 ZaK [(0,I6 f c)]))=(bV [(75,qnJ)] [] [] 46 3 (re3 m f c i)) E:=by kernel_rfl
def qnK:S->K (PX×S):=λs E=> ∃m,s=re3 m (λ_=>Y) 0 0/\J m<=1000000/\ ∀o,o=Ag m->E (.exit 0,⟨72,[(5,.mp 0 0)],[(0,⟨0,Y,mpI (cX o) (J o:Int)⟩)]⟩)
abbrev qaC(o:List Pl)(n:Nat)(g:D->Option D)(e:Option (D×D)):S:=⟨72,[(11,.sl 0 0 n),(60,.ref 1 0 0)],[(0,⟨0,Y,qaB C o⟩),(1,⟨0,Y,.iter 49 108 g e⟩)]⟩
def ZaL x:=AM [T1 x,X8 x,X7 x,ue DD (AC (vc x 3)),ue DD (AC (vc x 4)),ue DD (AC (vc x 5)),FS (Q1 (vc x 6)),ID (Q3 (vc x 7))]
theorem qjH o (n:Nat) g e E:((∀k x,g k=Z x->ob (bE PR (49:I) k) (ob (bE PR (108:I) x) (ob (gr n (sf o)&&aB (n+J [ZaL x]) 72) (E (xz,AD 72 [(11,If 0 0 (n+J [ZaL x])),(60,jB)] [(0,we 0 Y (AS (108:I) C (ab n (fI o)++[ZaL x]))),(1,we 0 Y (Q4 49 108 (λh=>bif T2 k h then Y else g h) (Z (xM k,ZaL x))))])))))/\(Q9 g->E (CE 2,AD 72 [(11,ZM n)] (wb o))))=(bV [] [] [] 46 14 (qaC o n g e)) E:=by kernel_rfl
def qgF:S->K (PX×S):=λs E=> ∃T,s=qaC [] 0 (cX T) Y/\(J T<=1000000/\Uq T)/\ ∀out,out.Perm T->E (.exit 2,⟨72,[(11,.sl 0 0 (J out))],[(0,⟨0,Y,qaB C out⟩)]⟩)
def qr3:bc:=λps R E=> ∃a b,ps=[.d (bI a),.d (bI b)]/\R=[]/\E (iD (lj a.1.1 a.1.2.1 a.1.2.2 b.1.1 b.1.2.1 b.1.2.2),[])
theorem qnL a b E:(∃t r i h l A,[Cs (Z6d a),Cs (Z6d b)]=Cs (AM (Zj t::Zj r::Zk i))::sM h l A/\Zn/\E (Cs (ue DD (lj t r i h l A)),[]))=(aO [(78,mG)] [] 77 [.d (bI a),.d (bI b)] []) E:=by kernel_rfl
def RV:=Cv 77 108 bI (λp:Pl=>p.1) (λa b=>kr a b)
def ZaO T:=AD 72 [(11,ZV),(60,jB)] [(0,Dj),(1,we 0 Y (Q4 49 108 (λx=>match x with |AM [ue DD a,ue DD b,ue DD c]=>i7 bI (bp T (a,b,c))|_=>Y) Y))]
def ZaN h:=AD 72 [Pw,(17,If 1 0 (oK h)),(18,Cs (ue DD (↑(oK h):Int))),(19,Cs Z5)] ((0,Dd)::ZaF h)
def ZaM h:=[Cs (IM 3 (Ef h)),Cs (IM 8 (Vv h))]
theorem qr4 l E:(∃B,ZaM l=ZaM B/\Zn/\Vw B/\ ∀m,m=List.foldl Ic [] B-> ∃A,ZaN m=ZaN A/\Vw A/\ ∀o,o=Ag A->ob (decide ((0:Int)<=(0:Int)/\(0:Int)<=qa o/\qa o<=Z8/\(72:Int)*qa o<=Z3q)) (∃T,ZaO o=ZaO T/\(iB T/\Uq T)/\ ∀out,List.Perm out T-> ∃l,[qQ out,P.fn (77:FuncId) []]=[qQ l,P.fn (77:FuncId) []]/\Y0 out=Y0 l/\iB l/\ ∀h,List.Perm h l->List.Pairwise (λ(a b:Pl)=>kr (ba b) (ba a)=C) h->E (qQ out,wb h)))=(fK [(74,qnF),(76,RV)] [] [(3,ah (aV 46 3) qnK),(14,ah (aV 46 14) qgF)] 46 [tnP l,tpP l] []) E:=by kernel_rfl
def Ir:bc:=λps R E=> ∃l,ps=[tnP l,tpP l]/\R=[]/\J l<=1000000/\ ∀o,o=Ag (l.foldl Ic [])->E (.sl 0 0 (J o),[(0,⟨0,Y,qaB C o⟩)])
theorem qnM(x y:ak):(x.1==y.1&&(x.2.1==y.2.1&&O)&&(x.2.2==y.2.2&&O))=decide (x=y):=by grind
theorem qeP:cX []=λ_=>Y:=by funext d;show yS bI (bp []) d=Y;unfold yS;split<;>rfl
theorem CD T x:aK (cX T (aF x)) (bI ti)=bI ((bp T x).getD ti):=by rw[oD];cases bp T x<;>rfl
theorem mV T x:(cX T (aF x)).isSome=(bp T x).isSome:=by rw[oD,zcC]
section
variable{X:XF}
theorem qeQ:LD X 75 2 (ah (aV 75 2) qr2):=LD.par .nil .nil
 (A:=List Pl×Int×ak×Int×ak) (B:=ak×Int) (λa b=>qjF (cX a.1) a.2.1 b.1 a.2.2.1 a.2.2.2.1 b.2)
 (λa b=>(0<=b.2/\b.2<=a.2.2.2.1/\a.2.2.2.1<=1000001)/\dI a.1 (a.2.2.2.1-b.2).toNat b.1 a.2.2.1=dI a.1 a.2.2.2.1.toNat a.2.2.2.2 a.2.2.1)
 (λa b=>(a.2.2.2.1-b.2).toNat)
 (λa x=>(dI a.1 a.2.2.2.1.toNat a.2.2.2.2 a.2.2.1=O/\x=(.exit 0,⟨30,[(0,.mp 0 0)],[(0,⟨0,Z 0,mpI (cX a.1) a.2.1⟩)]⟩))\/(dI a.1 a.2.2.2.1.toNat a.2.2.2.2 a.2.2.1=C/\x=(.ret,⟨30,[(0,.mp 0 0),(8,.d (.bool C))],[(0,⟨0,Z 0,mpI (cX a.1) a.2.1⟩)]⟩)))
 (by
  rintro⟨T,c,up,n,x0⟩ ⟨x,i⟩ ⟨⟨h0,U,F⟩,hv⟩;dsimp only at*
  (rw[<-qjG];delta fO gA gD fP fQ pd D7 Z2 nA Z5 uL fe Z2K Zz ZA Zj Zl qh jB Z74 Z8 Z7 Zv qw Zav CC Zau Zaw Z6Z Zh)
  have G:AM [ue DD 0,ue DD 0,ue DD 0,ue DD 0,ue DD 0,ue DD 0,FS [],ID C]=bI ti:=rfl;have H:AM [ue DD x.1,ue DD x.2.1,ue DD x.2.2]=aF x:=rfl;rw[G,H,CD,mV,qnM];generalize hV:dI T n.toNat x0 up=V at*
  refine b8 (λh=> ?_) λh=> ?_
  ·obtain⟨m,R⟩: ∃m,(n-i).toNat=m+1:=⟨(n-i).toNat-1,by omega⟩
   rw[R] at hv;refine ao (fJ _) (b8 (λe=> ?_) λe=> ?_)
   ·rw[show dI T (m+1) x up=O from zau e] at hv;exact .inl ⟨hv.symm,rfl⟩
   have L:dI T (m+1) x up=(match bp T x with |none=>C |some p=>dI T m p.2.1 up):=zat e;rw[L] at hv;cases Q:bp T x with
   |none=>rw[Q] at hv;refine nM rfl (.inr ⟨hv.symm,rfl⟩)
   |some p=>
    refine nN rfl (ar (by omega) ⟨_,?_,(p.2.1,i+1),rfl,⟨⟨by grind,by grind,F⟩,?_⟩,rfl⟩)
    ·grind
    grind
  rw[show(n-i).toNat=0 by omega] at hv;exact .inl ⟨hv.symm,rfl⟩)
 (by rintro s E ⟨T,c,x,up,n,rfl,l,U,F⟩;refine⟨(T,c,up,n,x),(x,0),rfl,⟨⟨zbW _,l.1,l.2⟩,by rw[Int.sub_zero]⟩,?_⟩;grind)
theorem qnN:FD X 75 qnJ:=IN .nil (.cons qeQ .nil) (by intro ps R E B;obtain⟨T,c,x,up,n,rfl,rfl,A,l⟩:=B;exact⟨T,c,x,up,n,rfl,A,λh=>l O h.symm,λh=>l C h.symm⟩)
end
theorem qnO:FC 77 qr3:=FC.mk (.cons zT .nil) (by
 intro ps R E l;obtain⟨a,b,rfl,rfl,h⟩:=l
 (rw[<-qnL];delta Zn Zj Zk sM Uh Ui Uj Z6d)
 exact⟨_,_,_,_,_,_,rfl,rfl,h⟩)
def qjI:D->Pl
 | .agg [.int DD a,.int DD b,.int DD c,.int DD d,.int DD e,.int DD f,.str s,.bool z]=>((a,b,c),(d,e,f),s,z)
 |_=>ti
theorem qaD{X}:FD X 76 RV:=Ai (dec:=qjI) (c:=λa b=>lj a.1.1 a.1.2.1 a.1.2.2 b.1.1 b.1.2.1 b.1.2.2)
 (λcf=>FD.M6 Tryz.func76 (by rfl) (by rfl) λps R E h=>jZ (gI h)) (λ_=>rfl) fR (λx y=>vN x.1 y.1) (λ_=>⟨_,rfl⟩)
 (λx y=>FC.TJ qnO ⟨x,y,rfl,rfl,rfl⟩) ⟨_,Tryz.func77,by rfl,by rfl⟩
section
variable{X:XF}{w0:World}(hX:b7 PR w0 X.cf)
include hX
theorem qnP:LN w0 46 3 (ah (aV 46 3) qnK):=LN.idx hX (by rfl) (.cons qnN .nil) .nil .nil
 (A:=List Td) (B:=Unit) (λm _ i=>re3 m (cX (Ag (m.take i.toNat))) (J (Ag (m.take i.toNat)):Int) i) (λm=>J m) (λm i _=>J m<=1000000)
 (λm x=>x=(.exit 0,⟨72,[(5,.mp 0 0)],[(0,⟨0,Y,mpI (cX (Ag m)) (J (Ag m):Int)⟩)]⟩))
 (by
  rintro m _ i E h0 dE bB V hn ho
  (rw[<-qgE];delta CC Pw ZaK Z2 Z5 Z3G k7 B1 Na OT Zs Ao ZaJ ZaI ZaH nA uL Zay Zaz qw Zav Zj Zl Zm fO gA gD fP fQ fe Zz ZA ZaG Zam ZaF I6 oK ZaE Z8 Z7 Zv ZaB ZaA)
  have e1:BC (m.map Il) i.toNat=Il m[i.toNat]:=aA _ _ _ bB;rw[e1];have U:=(Iq (m.take i.toNat)).step m[i.toNat];have hk:=qaA bB;have hl:=Ah (m.take i.toNat);rw[zaG] at hl;have I4:(i+1).toNat=i.toNat+1:=by omega
  rw[I4,hk] at hn;generalize Ag (m.take i.toNat)=o at*
  generalize m[i.toNat]=t at*
  have Q:(AC (vc (Il t) 3)==0&&(AC (vc (Il t) 4)==0&&O)&&(AC (vc (Il t) 5)==0&&O))=decide (t.2.1=aJ):=qnM t.2.1 (0,0,0);have l:=hn () V;simp only[re3,zaa] at l⊢;rw[Q];generalize hc:(J o:Int)=c;have hcn:(c+1).toNat=J o+1:=by omega
  refine dv (by omega) (ar ⟨h0,by omega⟩ (ar bB (ao (qr0 _) (b8 (λR=>ar (by omega) ?_) λR=>ar (by omega) ⟨o,c,t.2.2.1,t.2.1,c+1,rfl,rfl,⟨by omega,by omega⟩,λb G=> ?_⟩))))
  ·rw[U.2.1 (.inl R),hc] at l;exact l
  rw[hcn] at G;have G:b=within o t.2.2.1 t.2.1:=G;cases H:within o t.2.2.1 t.2.1 with
  |true=>rw[H] at G;subst G;refine nM rfl (ar (by omega) ?_);rw[U.2.1 (.inr H),hc] at l;exact l
  |false=>
   rw[H] at G;subst G;have h3:=U.2.2 (by rw[H];simp[R]);refine nN rfl (ao ?_ ?_)
   ·show bE PR 108 (aK (cX o (aF t.2.1)) (bI ti))=O;rw[CD];rfl
   cases F:bp o t.2.1 with
   |some p=>
    obtain⟨u,L⟩:=h3.1 p F;refine nM ?_ (ar (by omega) ?_)
    ·show(cX o (aF t.2.1)).isSome=O;rw[mV,F];rfl
    show E (xz,re3 m (aW (aF t.2.1) (bI (t.2.1,t.2.2.1,t.2.2.2.1,Q3 (vc (aK (cX o (aF t.2.1)) (bI ti)) 7))) (cX o)) (bif (cX o (aF t.2.1)).isSome then c else c+1) (i+1));rw[CD,mV,F];rw[<-u,L,hc] at l;exact l
   |none=>
    obtain⟨u,L⟩:=h3.2 F;refine nN ?_ (ar (by omega) ?_)
    ·show(cX o (aF t.2.1)).isSome=C;rw[mV,F];rfl
    show E (xz,re3 m (aW (aF t.2.1) (bI t.2) (cX o)) (bif (cX o (aF t.2.1)).isSome then c else c+1) (i+1));rw[mV,F];rw[<-u,L,show((J o+1:Nat):Int)=c+1 by omega] at l;exact l)
 (by
  rintro m _ i E hi V ho
  (rw[<-qgE];delta CC Pw ZaK Z2 Z5 Z3G k7 B1 Na OT Zs Ao ZaJ ZaI ZaH nA uL Zay Zaz qw Zav Zj Zl Zm fO gA gD fP fQ fe Zz ZA ZaG Zam ZaF I6 oK ZaE Z8 Z7 Zv ZaB ZaA)
  refine Cj (by omega) (ho _ (λh=>by cases h) ?_);rw[show i.toNat=J m by omega,zan])
 (by rintro s E ⟨m,rfl,V,F⟩;grind [Ag,qeP])
theorem qjJ:LN w0 46 14 (ah (aV 46 14) qgF):=LN.par hX (by rfl) .nil .nil .nil
 (A:=List Pl) (B:=List Pl×List Pl×Option (D×D)) (λ_ b=>qaC b.1 (J b.1) (cX b.2.1) b.2.2)
 (λT b=>J T<=1000000/\Uq b.2.1/\(b.1++b.2.1).Perm T) (λ_ b=>J b.2.1)
 (λT x=> ∃out:List Pl,out.Perm T/\x=(.exit 2,⟨72,[(11,.sl 0 0 (J out))],[(0,⟨0,Y,qaB C out⟩)]⟩))
 (by
  rintro T ⟨out,L,e⟩ ⟨l,H,F⟩;dsimp only at*
  (rw[<-qjH];delta fI Ur wb ZM Q9 X7 X8 T1 xM k7 T2 jB ZaL sf)
  have Q:=F.length_eq;rw[zaf] at Q;refine⟨λk v hk=> ?_,λR=> ?_⟩
  ·obtain⟨p,U,rfl,rfl⟩:=qaw hk;have G:=qeL L p.1;have h:=bx bI out p;refine ao (jG _) (ao (fJ _) (ao ?_ ⟨_,qay U,(out++[p],sQ L p.1,Z (aF p.1,bI p)),?_,⟨l,qeK H _,?_⟩,rfl⟩))
   ·skip
    simp[aB];omega
   ·show _=qaC (out++[p]) (J (out++[p])) (cX (sQ L p.1)) (Z (aF p.1,bI p));simp only[qaC,qaB];rw[<-G,<-h,zaf];rfl
   grind [UC]
  have:=qax R;exact⟨out,by grind,rfl⟩)
 (by rintro s E ⟨T,rfl,⟨l,hu⟩,F⟩;refine⟨T,([],T,Y),rfl,⟨l,hu,by simp⟩,?_⟩;grind)
theorem qnR:ND w0 46 Ir:=ND.mk hX (.cons qnH (.cons qaD .nil)) .nil (.loop (by decide) (qnP hX).T (.loop (by decide) (qjJ hX).T .nil)) (by
 intro ps R E U;obtain⟨l,rfl,rfl,G,hp⟩:=U
 (rw[<-qr4];delta fI Ur wb YO Y0 fp qQ iB Dj jB ZV ZaO Z3q Z8 qa Zam ZaF M9 Dd Z5 oK CC Pw ZaN Vw Zn Vv Ef ZaM)
 refine⟨l,rfl,rfl,G,λm Q=> ?_⟩;have Vc:J m<=1000000:=by obtain⟨h,_,_⟩:=wh l [] [] (.refl _) (by simp[UqT]) .nil;rw[Q,h.length_eq];exact zaJ (Im l) G
 have L:=Ah m;refine⟨m,rfl,Vc,λo A=> ?_⟩;have B:J o<=1000000:=by rw[A];omega
 refine ao (o9 ⟨by omega,by omega,by omega,by omega⟩) ⟨o,rfl,⟨B,by rw[A];exact(Iq m).uq⟩,λout H=>⟨out,rfl,rfl,by rw[H.length_eq];exact B,λF h V=> ?_⟩⟩;have e:F=Ag m:=qjE (h.trans (by rw[<-A];exact H)) V;have e2:J out=J F:=h.length_eq.symm;grind)
end
def Dp(L:List D):D->Option D:=λd=>bif L.any (λx=>NO x d) then Z (.agg []) else Y
theorem RW{L:List D}{d}:L.any (λx=>NO x d)=O↔d∈L:=by grind [D.bU]
theorem Is{L d}(h:d∈L):Dp L d=Z (.agg []):=by unfold Dp;rw[RW.2 h];rfl
theorem Px{L d}(h:d∉L):Dp L d=Y:=by grind [Dp,NO,RW]
theorem qaE{L k v}(h:Dp L k=Z v):k∈L/\v= .agg []:=by grind [Is,Px]
theorem qaF{L}(h: ∀k,Dp L k=Y):L=[]:=by
 cases L with
 |nil=>rfl
 |cons x r=>have:=h x;rw[Is (zbQ ..)] at this;cases this
theorem qeR L k:(λh=>bif NO k h then Z (.agg []) else Dp L h)=Dp (L++[k]):=by grind [NO,D.bU,Is,Px]
def ux(L:List D) k:=L.filter λx=> !NO k x
theorem wi{L k d}:d∈ux L k↔d∈L/\d≠k:=by grind [ux,D.bU]
theorem RX L k:iq k (Dp L)=Dp (ux L k):=by grind [sa,Px,wi,zH,Is]
theorem qaG{L k}(h:k∈L):J (ux L k)<J L:=by grind [ux,Nat.lt_of_le_of_ne,List.length_filter_le,List.length_filter_eq_length_iff,D.bU]
theorem qaH g: ∀(h:List aT) (o:List ak) (x:ak),x∈h.foldl (Y9 g) o↔x∈o\/ ∃d∈h,d∉g/\d.1=x
 | [],o,x=>by simp
 |d::h,o,x=>by
  rw[zbh,qaH g h];have e:x∈Y9 g o d↔x∈o\/(d∉g/\d.1=x):=by grind [Y9,iV]
  rw[e,or_assoc];simp
theorem Py g: ∀(h:List aT) (o:List ak),o.Pairwise (λx y=>kr y x=C)->o.Nodup->(h.foldl (Y9 g) o).Pairwise (λx y=>kr y x=C)/\(h.foldl (Y9 g) o).Nodup
 | [],_,h1,h2=>⟨h1,h2⟩
 |d::h,o,h1,h2=>by
  rw[zbh];unfold Y9;split
  ·exact Py g h o h1 h2
  rename_i l;refine Py g h _ (zZ fR _ h1) ((iV _ _).nodup_iff.2 ?_);grind
theorem qjK{h g L}(A:L.Nodup)(B: ∀x,x∈L↔ ∃d∈h,d∉g/\d.1=x):dL kr L=lvX h g:=by have l:=Py g h [] .nil (by simp);refine(B5 fR ?_ l.1).symm;grind [qaH]
abbrev fBk:=117
abbrev bkI(h:List Hd)(i:Int):S:=⟨19,[(0,.mp 0 0),(1,.ref 1 0 0),(3,iD i)],[(0,⟨0,Z 1,.cS⟩),(1,⟨0,Z 0,.box 141 [.d (.sl 4 (h.map dX))]⟩)]⟩
abbrev bkE(h:List Hd):S:=⟨19,[(0,.mp 0 0),(1,.ref 1 0 0)],[(0,⟨0,Z 1,.cS⟩),(1,⟨0,Z 0,.box 141 [.d (.sl 4 (h.map dX))]⟩)]⟩
abbrev onC(out:List aN)(n:Nat)(f:D->Option D)(c:Int):S:=
 ⟨37,[(5,.ref 0 0 0),(6,.ref 2 0 0)],[(0,⟨0,Y,.box 36 [.sl 1 0 n]⟩),(1,⟨0,Y,.arr 27 C (out.map bX)⟩),(2,⟨0,Y,.box 100 [.mp 3 0]⟩),(3,⟨0,Y,mpS f c⟩)]⟩
abbrev qeS:=Z ([5,6],[5,6])
theorem qeT h out (n:Nat) f c i E:(bif decide (i>=(0:Int)) then bif decide ((0:Int)<=i/\i<(↑(J (aa dX h)):Int)) then bif bE PR 143 (BC (aa dX h) (dd i)) then bif bE PR 3 (aK (f (AM [ue DD (AC (vc (BC (aa dX h) (dd i)) 0)),ue DD (AC (vc (BC (aa dX h) (dd i)) 1))])) (ue DD (0:Int))) then bif decide (AC (aK (f (AM [ue DD (AC (vc (BC (aa dX h) (dd i)) 0)),ue DD (AC (vc (BC (aa dX h) (dd i)) 1))])) (ue DD (0:Int)))>(0:Int)) then bif decide ((-9223372036854775808:Int)<=i-(1:Int)/\i-(1:Int)<=(9223372036854775807:Int)) then E (xz,AD 19 [(0,P.mp 0 0),(1,RK 1 0 0),(3,Cs (ue DD (i-(1:Int))))] [(0,we 0 (Z 1) Obj.cS),(1,we 0 (Z 0) (GT 141 [Cs (IM 4 (aa dX h))]))],xz,AD 37 [(5,RK 0 0 0),(6,RK 2 0 0)] [(0,we 0 Y (GT 36 [If 1 0 n])),(1,we 0 Y (AS 27 C (aa bX out))),(2,we 0 Y (GT 100 [P.mp 3 0])),(3,we 0 Y (HH 27 f c C))]) else False else bif gr n (J (aa bX out))&&aB (n+J [AM [ue DD (AC (vc (BC (aa dX h) (dd i)) 0)),ue DD (AC (vc (BC (aa dX h) (dd i)) 1))]]) 16 then bif bE PR 3 (aK (f (AM [ue DD (AC (vc (BC (aa dX h) (dd i)) 2)),ue DD (AC (vc (BC (aa dX h) (dd i)) 3))])) (ue DD (0:Int))) then bif decide ((-9223372036854775808:Int)<=AC (aK (f (AM [ue DD (AC (vc (BC (aa dX h) (dd i)) 2)),ue DD (AC (vc (BC (aa dX h) (dd i)) 3))])) (ue DD (0:Int)))+(1:Int)/\AC (aK (f (AM [ue DD (AC (vc (BC (aa dX h) (dd i)) 2)),ue DD (AC (vc (BC (aa dX h) (dd i)) 3))])) (ue DD (0:Int)))+(1:Int)<=(9223372036854775807:Int)) then bif decide ((-9223372036854775808:Int)<=i-(1:Int)/\i-(1:Int)<=(9223372036854775807:Int)) then E (xz,AD 19 [(0,P.mp 0 0),(1,RK 1 0 0),(3,Cs (ue DD (i-(1:Int))))] [(0,we 0 (Z 1) Obj.cS),(1,we 0 (Z 0) (GT 141 [Cs (IM 4 (aa dX h))]))],xz,AD 37 [(5,RK 0 0 0),(6,RK 2 0 0)] [(0,we 0 Y (GT 36 [If 1 0 (n+J [AM [ue DD (AC (vc (BC (aa dX h) (dd i)) 0)),ue DD (AC (vc (BC (aa dX h) (dd i)) 1))]])])),(1,we 0 Y (AS 27 C (ab n (aa bX out)++[AM [ue DD (AC (vc (BC (aa dX h) (dd i)) 0)),ue DD (AC (vc (BC (aa dX h) (dd i)) 1))]]))),(2,we 0 Y (GT 100 [P.mp 3 0])),(3,we 0 Y (HH 27 (λl=>bif NO (AM [ue DD (AC (vc (BC (aa dX h) (dd i)) (0+1+1))),ue DD (AC (vc (BC (aa dX h) (dd i)) (0+1+1+1)))]) l then Z (ue DD (AC (aK (f (AM [ue DD (AC (vc (BC (aa dX h) (dd i)) (0+1+1))),ue DD (AC (vc (BC (aa dX h) (dd i)) (0+1+1+1)))])) (ue DD (0:Int)))+(1:Int))) else aW (AM [ue DD (AC (vc (BC (aa dX h) (dd i)) (0+1+1))),ue DD (AC (vc (BC (aa dX h) (dd i)) (0+1+1+1)))]) (aK (f (AM [ue DD (AC (vc (BC (aa dX h) (dd i)) (0+1+1))),ue DD (AC (vc (BC (aa dX h) (dd i)) (0+1+1+1)))])) (ue DD (0:Int))) f l) (bif ir (f (AM [ue DD (AC (vc (BC (aa dX h) (dd i)) 2)),ue DD (AC (vc (BC (aa dX h) (dd i)) 3))])) then c else c+(1:Int)) C))]) else False else False else False else False else False else False else False else E (CE 0,AD 19 [(0,P.mp 0 0),(1,RK 1 0 0)] [(0,we 0 (Z 1) Obj.cS),(1,we 0 (Z 0) (GT 141 [Cs (IM 4 (aa dX h))]))],xz,AD 37 [(5,RK 0 0 0),(6,RK 2 0 0)] [(0,we 0 Y (GT 36 [If 1 0 n])),(1,we 0 Y (AS 27 C (aa bX out))),(2,we 0 Y (GT 100 [P.mp 3 0])),(3,we 0 Y (HH 27 f c C))]))=(Am [] [] 44 4 2000000 qeS 1 fBk 1 (bkI h i,(.normal,onC out n f c))) E:=by kernel_rfl
def FQ(l:List Hd):=Pf l.reverse []
theorem qaI h l:FQ (h::l)=D6 (FQ l) h:=by simp[FQ,Pf]
theorem RY l:J (FQ l)<=J l:=by grind [FQ,H7]
theorem qnS l:Ni l=((FQ (qJ l)).map (·.1)).reverse:=rfl
def kI(l:List Hd):=(l.map (·.2)).reverse
theorem qaJ l:J (kI l)=J l:=by simp[kI]
theorem UD l h:kI (l++[h])=h.2::kI l:=by simp[kI]
theorem qaK l x:x∈kI l↔(l.any λy=>y.2==x)=O:=by grind [kI]
def gOn:FJ:=λy E=> ∃h:List Hd,J h<=1000000/\(∃i:Int,i=(J h:Int)-1/\y=(bkI h i,(.normal,onC [] 0 (λ_=>Y) 0)))/\
 ∀c o f,o=FQ h->f=cM (kI o)->E (.exit 0,bkE h,(.normal,onC (o.map (·.1)) (J o) f c))
section
variable{X:XF}{w0:World}(hX:b7 PR w0 X.cf)
include hX
theorem qr5:LY w0 44 4 1 fBk 1 (j7 (aV fBk 1) gOn):=LY.par hX (base:=2000000) (keep:=qeS) .nil .nil (by rfl) (by rfl) (by rfl)
 (A:=List Hd) (B:=Nat×Int×Int)
 (λF b=>(bkI F b.2.1,(.normal,onC ((FQ (F.drop b.1)).map (·.1)) (J (FQ (F.drop b.1))) (cM (kI (FQ (F.drop b.1)))) b.2.2)))
 (λF b=>J F<=1000000/\b.1<=J F/\b.2.1=(b.1:Int)-1)
 (λ_ b=>b.1)
 (λF x=> ∃c,x=(.exit 0,bkE F,(.normal,onC ((FQ F).map (·.1)) (J (FQ F)) (cM (kI (FQ F))) c)))
 (by
  rintro F ⟨k,i,c⟩ ⟨U,hk,V⟩;dsimp only at*
  rw[<-qeT];cases k with
  |zero=>refine Cj (by omega) ?_;exact⟨c,rfl⟩
  |succ k=>
   have aZ:k<J F:=by omega
   have L:i.toNat=k:=by omega
   have hl:=RY (F.drop (k+1));have hd:F.drop k=F[k]::F.drop (k+1):=za3 aZ;have JL:J (F.drop (k+1))<=1000000:=by simp;omega
   have e1:BC (F.map dX) i.toNat=dX F[k]:=by rw[L];exact aA _ _ _ aZ
   rw[e1];have H:FQ (F.drop k)=D6 (FQ (F.drop (k+1))) F[k]:=by rw[hd,qaI]
   generalize F[k]=h at H;generalize FQ (F.drop (k+1))=on at H hl;have v1: ∀n:Int,AC (iE n)=n:=λ_=>rfl;have t1:AM [ue DD (AC (vc (dX h) 0)),ue DD (AC (vc (dX h) 1))]=bX h.1:=rfl;have t2:AM [ue DD (AC (vc (dX h) 2)),ue DD (AC (vc (dX h) 3))]=bX h.2:=rfl;have g0:aK (cM (kI on) (bX h.1)) (.int DD 0)=iE ((kI on).count h.1:Int):=rU _ _;have g2:aK (cM (kI on) (bX h.2)) (.int DD 0)=iE ((kI on).count h.2:Int):=rU _ _;have R:=λz=>Ih (kI on) h.2 z;have M7:(kI on).count h.1>0↔(on.any λy=>y.2==h.1)=O:=by rw[<-qaK];simp
   have c1:=zbu (a:=h.1) (l:=kI on);have c2:=zbu (a:=h.2) (l:=kI on);rw[qaJ] at c1 c2;have G:((kI on).count h.1:Int)>0↔(on.any λy=>y.2==h.1)=O:=by rw[<-M7];omega
   have Q:0<=((kI on).count h.2:Int)/\((kI on).count h.2:Int)<=1000000:=by omega
   rw[t1,t2,g0,g2,zaa];generalize ((kI on).count h.1:Int)=n1 at G⊢;generalize ((kI on).count h.2:Int)=n2 at R Q⊢;simp only[v1,zav,zaI,zaE];refine dv (by omega) (ar ⟨by omega,by omega⟩ (ao (qrW _) (ao (Md _) (b8 (λhu=>ar (by omega) ?_) λhu=>ao ?_ (ao (Md _) (ar (by omega) (ar (by omega) ?_)))))))
   ·refine⟨k,zdg k,(k,i-1,c),?_,⟨U,by grind,by grind⟩,rfl⟩;rw[H,D6,zau (G.1 hu)]
   ·rw[zac];exact⟨by simp,dw (by omega) (by omega)⟩
   rw[R];refine⟨k,zdg k,(k,i-1,bif (cM (kI on) (bX h.2)).isSome then c else c+1),?_,⟨U,by grind,by grind⟩,rfl⟩;have e:ab (J on) ((on.map (·.1)).map bX)++[bX h.1]=(on.map (·.1)++[h.1]).map bX:=by rw[zak (by simp),zaC];rfl
   rw[e,H,D6,zat (λh=>hu (G.2 h)),UD,zaf,show(on++[h]).map (λx:Hd=>x.1)=on.map (·.1)++[h.1] from zaC];rfl)
 (by
  rintro y E ⟨F,h1,⟨i,V,rfl⟩,h2⟩;refine⟨F,(J F,i,0),?_,⟨h1,zag _,V⟩,?_⟩
  ·skip
   rw[zcl,show kI (FQ [])=[] from rfl,Ig];rfl
  grind)
end
abbrev onA(l m:List Hd):S:=⟨37,[(0,Pt l),(1,Pu l),(4,.sl 1004 0 0),(5,.ref 1005 0 0),(6,.ref 1006 0 0),(9,.sl 1009 0 0),(10,.mp 1010 0),(11,Pt l),(12,Pu l),(13,.sl 1013000 0 (J m)),(14,.fn fBk [.ref 1014000 0 0])],
 [(1004,⟨0,Y,.arr 27 C []⟩),(1005,⟨0,Y,.box 36 [.sl 1009 0 0]⟩),(1006,⟨0,Y,.box 100 [.mp 1010 0]⟩),(1009,⟨0,Y,.arr 27 C []⟩),(1010,⟨0,Y,.map 27 (λ_=>Y) 0 C⟩),(1005000,⟨0,Y,.arr 27 C []⟩),(1013000,⟨0,Y,arH O m⟩),(1014000,⟨0,Y,.box 141 [.d (.sl 4 (ab (J m) (m.map dX)))]⟩)]⟩
theorem qeU l m E:(bif decide ((-9223372036854775808:Int)<=(↑(J (ab (J m) (aa dX m))):Int)-(1:Int)/\(↑(J (ab (J m) (aa dX m))):Int)-(1:Int)<=(9223372036854775807:Int)) then∃h,J h<=1000000/\(∃i,i=(↑(J h):Int)-(1:Int)/\(AD 19 [(0,P.mp 0 0),(1,RK 1 0 0),(3,Cs (ue DD ((↑(J (ab (J m) (aa dX m))):Int)-(1:Int))))] [(0,we 0 (Z 1) Obj.cS),(1,we 0 (Z 0) (GT 141 [Cs (IM 4 (ab (J m) (aa dX m)))]))],xz,AD 37 [(5,RK 0 0 0),(6,RK 2 0 0)] [(0,we 0 Y (GT 36 [If 1 0 0])),(1,we 0 Y (AS 27 C [])),(2,we 0 Y (GT 100 [P.mp 3 0])),(3,we 0 Y (HH 27 (λ_=>Y) (0:Int) C))])=(AD 19 [(0,P.mp 0 0),(1,RK 1 0 0),(3,Cs (ue DD i))] [(0,we 0 (Z 1) Obj.cS),(1,we 0 (Z 0) (GT 141 [Cs (IM 4 (aa dX h))]))],xz,AD 37 [(5,RK 0 0 0),(6,RK 2 0 0)] [(0,we 0 Y (GT 36 [If 1 0 0])),(1,we 0 Y (AS 27 C [])),(2,we 0 Y (GT 100 [P.mp 3 0])),(3,we 0 Y (HH 27 (λ_=>Y) (0:Int) C))]))/\ ∀c o f,o=FQ h->f=cM (kI o)->E (xz,AD 37 [(5,RK 0 0 0),(6,RK 2 0 0)] [(0,we 0 Y (GT 36 [If 1 0 (J o)])),(1,we 0 Y (AS 27 C (aa bX (aa (λ(x:Hd)=>ba x) o)))),(2,we 0 Y (GT 100 [P.mp 3 0])),(3,we 0 Y (HH 27 f c C))]) else False)=(RQ [] [] (λB A=>if bo B fBk&&bo A 1 then [(1,j7 (aV fBk 1) gOn)] else []) 44 4 2000000 qeS (onA l m)) E:=by kernel_rfl
abbrev qT(z:Bool)(l:List aN):Obj:= .arr 27 z (l.map bX)
def qnT:S->K (PX×S):=λs E=> ∃l m,s=onA l m/\J m<=1000000/\ ∀c o f,o=FQ m->E (.normal,onC (o.map (·.1)) (J o) f c)
def qgG:bc:=λps R E=> ∃l,ps=[.sl 0 0 (J l)]/\R=[(0,⟨0,Z 0,qT C l⟩)]/\J l<=1000000/\ ∀h,h=l.reverse->E (.cy [],[(0,⟨0,Z 0,qT C h⟩)])
abbrev rvH(n:Nat)(l:List aN)(i j:Int):S:=⟨28,[(0,.sl 0 0 n),(2,iD i),(3,iD j)],[(0,⟨0,Z 0,qT C l⟩)]⟩
def wj l:=AS (27:I) C (aa bX l)
def zu l:=[(0,we 0 (Z 0) (wj l))]
def ZaQ l i j:=tz (aa bX l) (Zs i) (D.aY (AM (LM l i)) (LM l j))
def ZaP j l:=decide (Zs j<Ab l)
theorem qnU n l i j E:(bif Zh i j then ob (jA j n) (ob (ZaP j l) (ob (H3 l j) (ob (jA i n) (ob (ZaP i l) (ob (H3 l i) (ob (jA i n) (ob (ZaP i l) (ob (H3 l i) (ob (jA j n) (ob (decide (Zs j<J (ZaQ l i j))) (ob (bE PR (27:I) (BC (ZaQ l i j) (Zs j))) (ob (Zv i) (ob (Z9 j) (E (xz,AD 28 [qP n,(2,ZA i),(3,ZG j)] [(0,we 0 (Z 0) (AS (27:I) C (tz (ZaQ l i j) (Zs j) (D.aY (AM [ue DD (AC (vc (BC (ZaQ l i j) (Zs j)) 0)),ue DD (AC (vc (BC (ZaQ l i j) (Zs j)) 1))]) (LM l i)))))]))))))))))))))) else E (CE 0,AD 28 [qP n] (zu l)))=(aG [] [] 73 1 (rvH n l i j)) E:=by kernel_rfl
def gRv:S->K (PX×S):=λh E=> ∃l n j,h=rvH n l 0 j/\(n=J l/\j=(n:Int)-1/\n<=1000000)/\E (.exit 0,⟨28,[(0,.sl 0 0 n)],[(0,⟨0,Z 0,qT C l.reverse⟩)]⟩)
theorem qr6 n l E:(ob (decide (Z7<=Nc n/\Nc n<=Z8)) (∃A h j,AD 28 [qP n,(2,Cs Z5),(3,Cs (ue DD (Nc n)))] (zu l)=AD 28 (qP h::(2,Cs Z5)::ZH j) (zu A)/\(h=gX A/\j=Nc h/\h<=1000000)/\E (Z3i,[(0,we 0 (Z 0) (AS (27:I) C (aa bX (th A))))])))=(aO [] [(1,ah (aV 73 1) gRv)] 73 [.sl 0 0 n] [(0,⟨0,Z 0,qT C l⟩)]) E:=by kernel_rfl
def Eh h:=we 0 Y (wj h)
def Vx h:=[(0,Eh h)]
def Iu l:=gX l<=1000000
def wm l:=If 0 0 (gX l)
def Jy:=we 0 Y (AS (27:I) C [])
def ZaV h l:=AD 37 [Z9A h,Z9B h,(4,If 1004 0 0),(5,RK 1005 0 0),(6,RK 1006 0 0),(9,If 1009 0 0),(10,P.mp 1010 0),(11,Cs (IM 2 (Cz h))),(12,Cs (IM 2 (Jv h))),(13,If 1013000 0 (jg l)),(14,P.fn (117:FuncId) [RK 1014000 0 0])] [(1004,Jy),(1005,we 0 Y (GT (36:I) [If 1009 0 0])),(1006,we 0 Y (GT (100:I) [P.mp 1010 0])),(1009,Jy),(1010,Z9K),(1005000,Jy),(1013000,we 0 Y (AS (143:I) O (aa dX l))),(1014000,we 0 Y (GT (141:I) [Cs (IM 4 (Uz l))]))]
def ZaT h:=[Cs (IM 2 (Cz h)),Cs (IM 2 (Jv h))]
theorem qr7 l E:(∃A,ZaT l=ZaT A/\Zn/\FM A/\ ∀m,m=qJ A-> ∃F h,ZaV l m=ZaV F h/\FM h/\ ∀(_:Int) (o:List Hd) (_:D->Option D),o=FQ h-> ∃l,[xT o]=[wm l]/\[(0,we 0 (Z 0) (AS (27:I) C (Cz o)))]=zu l/\Iu l/\ ∀B,B=th l->E (xT o,Vx B))=(fK [(72,qaq),(73,qgG)] [] [(500004,qnT)] 44 [Pt l,Pu l] []) E:=by kernel_rfl
def qnV:bc:=λps R E=> ∃l,ps=[Pt l,Pu l]/\R=[]/\J l<=1000000/\ ∀o,o=Ni l->E (.sl 0 0 (J o),[(0,⟨0,Y,qT C o⟩)])
def po(l:List aN) i:=(List.range (J l)).map λp=>if p<i\/J l-i<=p then l.getD (J l-1-p) (0,0) else l.getD p (0,0)
theorem jC l i:J (po l i)=J l:=by simp[po]
theorem CG l i p (h:p<J l):(po l i)[p]'(by rw[jC];exact h)=if p<i\/J l-i<=p then l.getD (J l-1-p) (0,0) else l.getD p (0,0):=by simp[po]
theorem UE l:po l 0=l:=by apply zbU (jC l 0);grind [CG,sk]
theorem qaL l i (h:J l<=2*i+1):po l i=l.reverse:=by apply zbU (by rw[jC];simp);grind [jC,CG,sk]
theorem UF l i (h:2*i+1<J l):((po l i).set i ((po l i)[J l-1-i]'(by rw[jC];omega))).set (J l-1-i) ((po l i)[i]'(by rw[jC];omega))=po l (i+1):=by apply zbU (by simp[jC]);grind [jC,CG]
section
variable{X:XF}
theorem qjM:LD X 73 1 (ah (aV 73 1) gRv):=LD.par .nil .nil
 (A:=List aN) (B:=Nat×Int×Int) (λl b=>rvH (J l) (po l b.1) b.2.1 b.2.2) (λl b=>J l<=1000000/\b.2.1=(b.1:Int)/\b.2.2=(J l:Int)-1-b.1/\2*b.1<=J l+1) (λl b=>J l-b.1)
 (λl x=>x=(.exit 0,⟨28,[(0,.sl 0 0 (J l))],[(0,⟨0,Z 0,qT C l.reverse⟩)]⟩))
 (by
  rintro l ⟨k,i,j⟩ ⟨hm,hi,hj,hk⟩;dsimp only at*
  (rw[<-qnU];delta wj zu Zs LM ZG Zz ZA ZM qP Z8 Z7 Z9 Zv ZaQ H3 Ab ZaP jA Zh)
  refine b8 (λH=> ?_) λH=> ?_
  ·have h:i.toNat=k:=by omega
   have F:j.toNat=J l-1-k:=by omega
   have V:=jC l k;have ei:BC ((po l k).map bX) i.toNat=bX ((po l k)[k]'(by omega)):=by grind [aA]
   have ej:BC ((po l k).map bX) j.toNat=bX ((po l k)[J l-1-k]'(by omega)):=by grind [aA]
   have L:=UF l k (by omega);have cU:k≠J l-1-k:=by omega
   rw[ei,ej];have U: ∀y,((po l k).set k y)[J l-1-k]'(by simp;omega)=(po l k)[J l-1-k]'(by omega):=λy=>by rw[List.getElem_set_ne cU]
   generalize R:(po l k)[k]'(by omega)=x at*
   generalize Q:(po l k)[J l-1-k]'(by omega)=y at*
   have w1:D.aY (AM [ue DD (AC (vc (bX x) 0)),ue DD (AC (vc (bX x) 1))]) [ue DD (AC (vc (bX y) 0)),ue DD (AC (vc (bX y) 1))]=bX y:=rfl;have G:D.aY (AM [ue DD (AC (vc (bX y) 0)),ue DD (AC (vc (bX y) 1))]) [ue DD (AC (vc (bX x) 0)),ue DD (AC (vc (bX x) 1))]=bX x:=rfl;have e3:BC ((po l k).map bX |>.set i.toNat (bX y)) j.toNat=bX y:=by rw[<-zbA,h,F,aA _ _ _ (by simp;omega),U]
   rw[w1,e3,G,<-zbA,<-zbA];refine ar ⟨by omega,by omega⟩ (ar (by simp;omega) (ao (ph _) (ar ⟨by omega,by omega⟩ (ar (by simp;omega) (ao (ph _) (ar ⟨by omega,by omega⟩ (ar (by simp;omega) (ao (ph _) (ar ⟨by omega,by omega⟩ (ar (by simp;omega) (ao (ph _) (ar (by omega) (ar (by omega) ?_)))))))))))));refine⟨J l-(k+1),by omega,(k+1,i+1,j-1),?_,⟨hm,by grind,by grind,by grind⟩,rfl⟩;rw[<-L,h,F]
  show _=_;rw[qaL l k (by omega)])
 (by rintro s E ⟨l,n,j,rfl,⟨rfl,hj,hn⟩,hp⟩;refine⟨l,(0,0,j),by rw[UE],⟨hn,rfl,by grind,by simp⟩,?_⟩;grind)
theorem qjN:FD X 73 qgG:=IN .nil (.cons qjM .nil) (by
 intro ps R E h;obtain⟨l,rfl,rfl,B,A⟩:=h
 (rw[<-qr6];delta Z3i gX Zj Zl ZH wj zu Z5 ZM qP Z8 Nc Z7)
 grind)
end
section
variable{X:XF}{w0:World}(hX:b7 PR w0 X.cf)
include hX
theorem qr8:FN w0 44 4 qnT:=FN.mk hX .nil .nil (base:=2000000) (keep:=qeS) (by rfl) (hk:=λG F=>if bo G fBk&&bo F 1 then [(1,j7 (aV fBk 1) gOn)] else [])
 (by
  intro G F h V A;split at A
  next B=>
   rw[zac] at B;have e1:=zad B.1;have Q:=zad B.2;subst e1 Q;unfold lk at A;split at A
   next H=>have L:=zad H;subst L;cases A;exact⟨by rfl,qr5 hX⟩
   cases A
  cases A)
 (by rintro s E ⟨l,m,rfl,U,R⟩;rw[<-qeU];have e:ab (J m) (m.map dX)=m.map dX:=zak (by simp);rw[e,zaa];grind)
theorem qr9:ND w0 44 qnV:=ND.mk hX (.cons qeI (.cons qjN .nil)) .nil (.range (qr8 hX) .nil) (by
 intro ps R E G;obtain⟨l,rfl,rfl,B,L⟩:=G
 (rw[<-qr7];delta wj Eh Vx gX Iu zu Cz wm jg xT Uz Z9K Jy Jv Z9B Z9A ZaV FM Zn ZaT)
 have Q:=LS l;refine⟨l,rfl,rfl,B,λm h=>⟨l,m,rfl,by rw[h];omega,λc o f A=>⟨o.map (·.1),by rw[zaa],rfl,?_,λH F=> ?_⟩⟩⟩
 ·have:=RY m;rw[zaa,A];grind
 grind [Ni,qnS])
end
def eK(d:aT):D:= .agg [iE d.1.1,iE d.1.2.1,iE d.1.2.2,iE d.2.1,iE d.2.2]
abbrev gK(l:List aT):P:= .d (.sl 5 (l.map eK))
abbrev qsa(x:aT):Obj:= .box 121 [iD x.1.1,iD x.1.2.1,iD x.1.2.2,iD x.2.1,iD x.2.2]
abbrev qnW(z:Bool)(l:List aT):Obj:= .arr 121 z (l.map eK)
abbrev fw(z:Bool)(l:List ak):Obj:= .arr 49 z (l.map aF)
abbrev wo(z:Bool)(l:List Pl):Obj:= .arr 108 z (l.map bI)
abbrev qeV(l:List aT)(x:aT)(i:Int):S:=⟨18,[(0,gK l),(3,.ref 0 0 0),(5,iD i)],[(0,⟨0,Y,qsa x⟩)]⟩
def Zb7(x:aT):=[(0,we 0 Y (GT (121:I) [Cs (ue DD (ba (ba x))),Cs (ue DD (ba (bl (ba x)))),Cs (ue DD (bl (bl (ba x)))),Cs (ue DD (ba (bl x))),Cs (ue DD (bl (bl x)))]))]
def uO l:=aa eK l
def qL l:=Cs (IM 5 (uO l))
def uy l:=(0,qL l)
def wS l i:=BC (uO l) (Zs i)
noncomputable def Mm l i:=bE PR (121:I) (wS l i)
def Mn i l:=decide ((0:Int)<=i/\i<(↑(J (uO l)):Int))
def UG i l:=decide (i<(↑(J (uO l)):Int))
theorem qgH l (x:aT) i E:(bif UG i l then ob (Mn i l) (ob (Mm l i) (bif AC (vc (wS l i) 0)==ba (ba x)&&(AC (vc (wS l i) 1)==ba (bl (ba x))&&O)&&(AC (vc (wS l i) 2)==bl (bl (ba x))&&O)&&(AC (vc (wS l i) 3)==ba (bl x)&&(AC (vc (wS l i) 4)==bl (bl x)&&O)&&O) then E (Q2,AD 18 Ri []) else ob (Zv i) (E (xz,AD 18 (uy l::eN::ZB i) (Zb7 x))))) else E (CE 0,AD 18 [] []))=(aG [] [] 63 2 (qeV l x i)) E:=by kernel_rfl
def qnX:S->K (PX×S):=λs E=> ∃l x,s=qeV l x 0/\J l<=1000000/\(x∈l->E (.ret,⟨18,[(4,.d (.bool O))],[]⟩))/\(x∉l->E (.exit 0,⟨18,[],[]⟩))
def y8(h:List aT):=J h<=1000000
theorem qsb l x E:(∃h A,AD 18 (uy l::eN::ZS) (Zb7 x)=AD 18 (uy h::eN::ZS) (Zb7 A)/\y8 h/\(A∈h->ZU E)/\(¬A∈h->Z3 E))=(aO [] [(2,ah (aV 63 2) qnX)] 63 [gK l,.d (eK x)] []) E:=by kernel_rfl
def qjO:bc:=λps R E=> ∃l x,ps=[gK l,.d (eK x)]/\R=[]/\J l<=1000000/\ ∀b,b=decide (x∈l)->E (.d (.bool b),[])
abbrev qsc(x:aN):Obj:= .box 27 [iD x.1,iD x.2]
def Zb9 l i (x:aN):=AC (vc (BC (aa bX l) (Zs i)) 0)==ba x&&(AC (vc (BC (aa bX l) (Zs i)) 1)==bl x&&O)
abbrev qjP(l:List aN)(x:aN)(i:Int):S:=⟨18,[(0,.sl 0 0 (J l)),(3,.ref 1 0 0),(5,iD i)],[(0,⟨0,Z 0,qT C l⟩),(1,⟨0,Y,qsc x⟩)]⟩
def Zbb l x:=[(0,we 0 (Z 0) (wj l)),(1,Z9a x)]
def Zba i l:=decide (i<(↑(gX l):Int))
theorem qaM l x i E:(bif Zba i l then ob (decide ((0:Int)<=i/\i<(↑(gX l):Int))) (ob (ZaP i l) (ob (H3 l i) (bif Zb9 l i x then E (Q2,AD 18 ((0,wm l)::Ri) (zu l)) else ob (Zv i) (E (xz,AD 18 ((0,wm l)::wO::ZB i) (Zbb l x)))))) else E (CE 0,AD 18 [(0,wm l)] (zu l)))=(aG [] [] 14 2 (qjP l x i)) E:=by kernel_rfl
def qgI:S->K (PX×S):=λs E=> ∃l x,s=qjP l x 0/\J l<=1000000/\(x∈l->E (.ret,⟨18,[(0,.sl 0 0 (J l)),(4,.d (.bool O))],[(0,⟨0,Z 0,qT C l⟩)]⟩))/\(x∉l->E (.exit 0,⟨18,[(0,.sl 0 0 (J l))],[(0,⟨0,Z 0,qT C l⟩)]⟩))
theorem qnY l x E:(∃h A,AD 18 ((0,wm l)::wO::ZS) (Zbb l x)=AD 18 ((0,wm h)::wO::ZS) (Zbb h A)/\Iu h/\(A∈h->E (ZT,zu h))/\(¬A∈h->E (Cs Z2,zu h)))=(aO [] [(2,ah (aV 14 2) qgI)] 14 [.sl 0 0 (J l),.d (bX x)] [(0,⟨0,Z 0,qT C l⟩)]) E:=by kernel_rfl
def RZ:bc:=λps R E=> ∃l x,ps=[.sl 0 0 (J l),.d (bX x)]/\R=[(0,⟨0,Z 0,qT C l⟩)]/\J l<=1000000/\ ∀b,b=decide (x∈l)->E (.d (.bool b),[(0,⟨0,Z 0,qT C l⟩)])
abbrev qjQ(l:List ak)(x:ak)(i:Int):S:=⟨18,[(0,.sl 0 0 (J l)),(3,.ref 1 0 0),(5,iD i)],[(0,⟨0,Z 0,fw C l⟩),(1,⟨0,Y,.box 49 [iD x.1,iD x.2.1,iD x.2.2]⟩)]⟩
theorem qaN l x i E:(bif decide (i<nr l) then ob (decide ((0:Int)<=i/\i<nr l)) (ob (Z2V i l) (ob (yT l i) (bif Z4p l i x then E (Q2,AD 18 ((0,sg l)::Ri) (Rb l)) else ob (Zv i) (E (xz,AD 18 ((0,sg l)::wO::ZB i) (Z3x l::Yo x)))))) else E (CE 0,AD 18 [(0,sg l)] (Rb l)))=(aG [] [] 101 2 (qjQ l x i)) E:=by kernel_rfl
def qgJ:S->K (PX×S):=λs E=> ∃l x,s=qjQ l x 0/\J l<=1000000/\(x∈l->E (.ret,⟨18,[(0,.sl 0 0 (J l)),(4,.d (.bool O))],[(0,⟨0,Z 0,fw C l⟩)]⟩))/\(x∉l->E (.exit 0,⟨18,[(0,.sl 0 0 (J l))],[(0,⟨0,Z 0,fw C l⟩)]⟩))
def Zbd h l:=AD 18 ((0,sg h)::wO::ZS) (Z3x h::Yo l)
theorem qnZ l x E:(∃h A,Zbd l x=Zbd h A/\ll h/\(A∈h->E (ZT,Rb h))/\(¬A∈h->E (Cs Z2,Rb h)))=(aO [] [(2,ah (aV 101 2) qgJ)] 101 [.sl 0 0 (J l),.d (aF x)] [(0,⟨0,Z 0,fw C l⟩)]) E:=by kernel_rfl
def qgK:bc:=λps R E=> ∃l x,ps=[.sl 0 0 (J l),.d (aF x)]/\R=[(0,⟨0,Z 0,fw C l⟩)]/\J l<=1000000/\ ∀b,b=decide (x∈l)->E (.d (.bool b),[(0,⟨0,Z 0,fw C l⟩)])
abbrev lvI(h g:List aT)(L:List D)(n:Nat)(i k:Int):S:=⟨72,[(0,gK h),(1,gK g),(5,.sl 0 0 n),(6,iD i),(8,iD k)],[(0,⟨0,Y,.arr 49 C L⟩)]⟩
abbrev lvJ(h g:List aT)(L:List D)(n:Nat)(i:Int):S:=⟨72,[(0,gK h),(1,gK g),(5,.sl 0 0 n),(6,iD i)],[(0,⟨0,Y,.arr 49 C L⟩)]⟩
def Zbj L:=[(0,vU L)]
def Zbf L k:=AM [H9 L k,H8 L k,RD L k]
def Zbg L k:=tz L (Zs k) (D.aY (Zbf L k) [Nk L k,Nj L k,Vo L k])
def Zbi L k:=we 0 Y (AS (49:I) C (tz (Zbg L k) (Za k) (D.aY (AM [ue DD (AC (vc (BC (Zbg L k) (Za k)) 0)),ue DD (AC (vc (BC (Zbg L k) (Za k)) 1)),ue DD (AC (vc (BC (Zbg L k) (Za k)) 2))]) [H9 L k,H8 L k,RD L k])))
def wq g:=(1,qL g)
def Zbk L k:=[Cs (Zbf L k),Cs (AM [Nk L k,Nj L k,Vo L k])]
noncomputable def Vy L k:=bE PR (49:I) (nT L k)
theorem qn0 h g L n i k E:(bif ZF k then ob (jA k n) (ob (tA k L) (ob (Vy L k) (ob (Z9 k) (ob (wR k n) (ob (D9 k L) (ob (bE PR (49:I) (Zb L k)) (∃t r F l A B,Zbk L k=Cs (AM (Zj t::Zj r::Zk F))::sM l A B/\Zn/\bif Z7t t r F l A B then ob (Z9 k) (ob (Z9 k) (ob (wR k n) (ob (D9 k L) (ob (bE PR (49:I) (Zb L k)) (ob (jA k n) (ob (tA k L) (ob (Vy L k) (ob (jA k n) (ob (tA k L) (ob (Vy L k) (ob (wR k n) (ob (decide (Za k<J (Zbg L k))) (ob (bE PR (49:I) (BC (Zbg L k) (Za k))) (ob (Z9 k) (E (xz,AD 72 [uy h,wq g,ZN n,ZQ i,(8,ZG k)] [(0,Zbi L k)])))))))))))))))) else E (CE 2,AD 72 (uy h::wq g::ZN n::Fz i) (Zbj L))))))))) else E (CE 2,AD 72 (uy h::wq g::ZN n::Fz i) (Zbj L)))=(aG [(98,mG)] [] 58 9 (lvI h g L n i k)) E:=by kernel_rfl
abbrev lvH(h g:List aT)(o:List ak)(i:Int):S:=⟨72,[(0,gK h),(1,gK g),(5,.sl 0 0 (J o)),(6,iD i)],[(0,⟨0,Y,fw C o⟩)]⟩
def qn1:S->K (PX×S):=λA E=> ∃h g,∃o,∃L n i k,A=lvI h g L n i k/\L=o.map aF/\((0<=k/\k<n)/\n<=1000001/\J o=n)/\ ∀l,J l=n->E (.exit 2,lvJ h g (l.map aF) n i)
def Ei k:=(8,Zl k)
def Zbr k:=[Ei k]
def Zbn h i:=ue DD (AC (vc (wS h i) 0))
def Zbo h i:=AM [Zbn h i,ue DD (AC (vc (wS h i) 1)),ue DD (AC (vc (wS h i) 2))]
def Zbp o h i:=dK o+J [Zbo h i]
def Ej o:=[(0,tj o)]
def Zbs h i:=[ue DD (AC (vc (wS h i) 3)),ue DD (AC (vc (wS h i) 4))]
def Zbt h i:=AM (Zbn h i::ue DD (AC (vc (wS h i) 1))::ue DD (AC (vc (wS h i) 2))::Zbs h i)
theorem qn2 h g o i E:(bif UG i h then ob (Mn i h) (ob (Mm h i) (ob (Mn i h) (ob (Mm h i) (∃(l:List aT) (x:aT),[qL g,Cs (Zbt h i)]=[qL l,Cs (AM [ue DD (ba (ba x)),ue DD (ba (bl (ba x))),ue DD (bl (bl (ba x))),ue DD (ba (bl x)),ue DD (bl (bl x))])]/\Zn/\y8 l/\ ∀b,b=decide (x∈l)->bif b then ob (Zv i) (E (xz,AD 72 (uy h::wq g::(5,sg o)::ZL i) (Ej o))) else∃l x,[sg o,Cs (Zbo h i)]=sg l::gW x/\Rb o=Rb l/\ll l/\ ∀b,b=decide (x∈l)->bif b then ob (Zv i) (E (xz,AD 72 (uy h::wq g::(5,sg o)::ZL i) (Ej l))) else ob (gr (dK o) (oH l)&&aB (Zbp o h i) 24) (ob (decide (Z7<=(↑(Zbp o h i):Int)-(1:Int)/\(↑(Zbp o h i):Int)-(1:Int)<=Z8)) (∃A G H L n B k,AD 72 [uy h,wq g,(5,If 0 0 (Zbp o h i)),ZQ i,(8,Cs (ue DD ((↑(Zbp o h i):Int)-(1:Int))))] [(0,we 0 Y (AS (49:I) C (ab (dK o) (eM l)++[Zbo h i])))]=AD 72 (uy A::wq G::ZN n::ZQ B::Zbr k) (Zbj L)/\L=eM H/\(RE k n/\n<=1000001/\dK H=n)/\ ∀F,dK F=n->ob (Zv B) (E (xz,AD 72 (uy A::wq G::ZN n::ZL B) (Ej F))))))))) else E (CE 0,AD 72 [(5,sg o)] (Ej o)))=(aG [(63,qjO),(101,qgK)] [(9,ah (aV 58 9) qn1)] 58 3 (lvH h g o i)) E:=by kernel_rfl
def gLv:S->K (PX×S):=λs E=> ∃h g,s=lvH h g [] 0/\(J h<=1000000/\J g<=1000000)/\ ∀o,J o<=J h->E (.exit 0,⟨72,[(5,.sl 0 0 (J o))],[(0,⟨0,Y,fw C o⟩)]⟩)
def Zbw(E:P×List (Nat×En)->Prop) o:=E (sg o,Ej o)
def Zbv:=[(0,xH)]
def UH:=(5,ZV)::Pk
theorem qsd h g E:(∃l A,AD 72 (uy h::wq g::UH) Zbv=AD 72 (uy l::wq A::UH) Zbv/\(y8 l/\y8 A)/\ ∀o,dK o<=J l->Zbw E o)=(aO [] [(3,ah (aV 58 3) gLv)] 58 [gK h,gK g] []) E:=by kernel_rfl
def qgL:bc:=λps R E=> ∃h g,ps=[gK h,gK g]/\R=[]/\(J h<=1000000/\J g<=1000000)/\ ∀o,J o<=J h->E (.sl 0 0 (J o),[(0,⟨0,Y,fw C o⟩)])
theorem Ek d:bE PR 121 (eK d)=O:=by rfl
theorem qse(y x:aT):(y.1.1==x.1.1&&(y.1.2.1==x.1.2.1&&O)&&(y.1.2.2==x.1.2.2&&O)&&(y.2.1==x.2.1&&(y.2.2==x.2.2&&O)&&O))=(y==x):=by grind
theorem CH{α:Type}[BEq α][LawfulBEq α] {l:List α}{x i}(A:i<J l)(h:(l[i]==x)=O):x∈l:=by rw[<-eq_of_beq h];simp
theorem CI{α:Type}[BEq α][LawfulBEq α] {l:List α}{x}(h: ∀j (B:j<J l),(l[j]==x)=C):x∉l:=λA=>by grind [List.getElem_of_mem]
section
variable{X:XF}
theorem qeW:LD X 63 2 (ah (aV 63 2) qnX):=LD.find .nil .nil
 (A:=List aT×aT) (λa k=>qeV a.1 a.2 k) (·.1) (λa _ x=>x==a.2) (λa=>J a.1<=1000000) (λ_ _=>(.ret,⟨18,[(4,.d (.bool O))],[]⟩)) (λ_=>(.exit 0,⟨18,[],[]⟩)) (λ_ _ h=>by cases h) (λ_ h=>by cases h)
 (by
  rintro⟨l,x⟩ k E eb F h0 hk B hf
  (rw[<-qgH];delta Zb7 Zz ZA ZB cp eN uO qL uy Z8 Z7 Zv ZT Ri Zs wS Mm Mn UG)
  have e1:BC (l.map eK) k.toNat=eK l[k.toNat]:=aA _ _ _ eb;have Q:k.toNat<J (l.map eK):=by rw[zaa];exact eb
  rw[e1];have v:=qse l[k.toNat] x;generalize l[k.toNat]=y at*
  rw[<-v] at B hf;simp only[qeV,zaa] at hf Q⊢;exact dv hk (ar ⟨h0,hk⟩ (ao (Ek _) (az (λh=>B h) λh=>ar (by omega) (hf h)))))
 (by
  rintro⟨l,x⟩ k E F hk hp
  (rw[<-qgH];delta Zb7 Zz ZA ZB cp eN uO qL uy Z8 Z7 Zv ZT Ri Zs wS Mm Mn UG)
  grind)
 (by rintro s E ⟨l,x,rfl,F,L,H⟩;exact⟨(l,x),rfl,F,λ_ G _ B _=>L (CH G B),λh=>H (CI h)⟩)
theorem qgM:FD X 63 qjO:=IN .nil (.cons qeW .nil) (by
 intro ps R E h;obtain⟨l,x,rfl,rfl,B,A⟩:=h
 (rw[<-qsb];delta Z2 Z3 ZT ZU y8 Zb7 Z5 ZS cp eN uO qL uy)
 grind)
theorem qaO:LD X 14 2 (ah (aV 14 2) qgI):=LD.find .nil .nil
 (A:=List aN×aN) (λa k=>qjP a.1 a.2 k) (·.1) (λa _ x=>x==a.2) (λa=>J a.1<=1000000) (λa _=>(.ret,⟨18,[(0,.sl 0 0 (J a.1)),(4,.d (.bool O))],[(0,⟨0,Z 0,qT C a.1⟩)]⟩)) (λa=>(.exit 0,⟨18,[(0,.sl 0 0 (J a.1))],[(0,⟨0,Z 0,qT C a.1⟩)]⟩)) (λ_ _ h=>by cases h) (λ_ h=>by cases h)
 (by
  rintro⟨l,x⟩ k E eb F h0 hk B hf
  (rw[<-qaM];delta yZ y5 Z9a wj Zbb Zz ZA ZB jB wO Z8 Z7 Zv zu ZT Ri gX wm Zs Zb9 H3 Ab ZaP Zba)
  have e1:BC (l.map bX) k.toNat=bX l[k.toNat]:=aA _ _ _ eb;have Q:k.toNat<J (l.map bX):=by rw[zaa];exact eb
  rw[e1];have v:=eq2 l[k.toNat] x;generalize l[k.toNat]=y at*
  rw[<-v] at B hf;exact dv hk (ar ⟨h0,hk⟩ (ar Q (ao (ph _) (az (λh=>B h) λh=>ar (by omega) (hf h))))))
 (by
  rintro⟨l,x⟩ k E F hk hp
  (rw[<-qaM];delta yZ y5 Z9a wj Zbb Zz ZA ZB jB wO Z8 Z7 Zv zu ZT Ri gX wm Zs Zb9 H3 Ab ZaP Zba)
  grind)
 (by rintro s E ⟨l,x,rfl,F,L,H⟩;exact⟨(l,x),rfl,F,λ_ G _ B _=>L (CH G B),λh=>H (CI h)⟩)
theorem Pz:FD X 14 RZ:=IN .nil (.cons qaO .nil) (by
 intro ps R E h;obtain⟨l,x,rfl,rfl,B,A⟩:=h
 (rw[<-qnY];delta Z2 wj zu ZT gX Iu yZ y5 Z9a Zbb Z5 ZS jB wO wm)
 grind)
theorem qaP:LD X 101 2 (ah (aV 101 2) qgJ):=LD.find .nil .nil
 (A:=List ak×ak) (λa k=>qjQ a.1 a.2 k) (·.1) (λa _ x=>x==a.2) (λa=>J a.1<=1000000) (λa _=>(.ret,⟨18,[(0,.sl 0 0 (J a.1)),(4,.d (.bool O))],[(0,⟨0,Z 0,fw C a.1⟩)]⟩)) (λa=>(.exit 0,⟨18,[(0,.sl 0 0 (J a.1))],[(0,⟨0,Z 0,fw C a.1⟩)]⟩)) (λ_ _ h=>by cases h) (λ_ h=>by cases h)
 (by
  rintro⟨l,x⟩ k E eb F h0 hk B hf
  (rw[<-qaN];delta fO gA gD fP fQ pd Yo eM Z3x Zz ZA ZB jB wO Z8 Z7 Zv Rb ZT Ri dK sg Zs I9 Ja HR Z4p yT oH Z2V nr)
  have e1:BC (l.map aF) k.toNat=aF l[k.toNat]:=aA _ _ _ eb;have Q:k.toNat<J (l.map aF):=by rw[zaa];exact eb
  rw[e1];have v:=eq3 l[k.toNat] x;generalize l[k.toNat]=y at*
  rw[<-v] at B hf;exact dv hk (ar ⟨h0,hk⟩ (ar Q (ao (jG _) (az (λh=>B h) λh=>ar (by omega) (hf h))))))
 (by
  rintro⟨l,x⟩ k E F hk hp
  (rw[<-qaN];delta fO gA gD fP fQ pd Yo eM Z3x Zz ZA ZB jB wO Z8 Z7 Zv Rb ZT Ri dK sg Zs I9 Ja HR Z4p yT oH Z2V nr)
  grind)
 (by rintro s E ⟨l,x,rfl,F,L,H⟩;exact⟨(l,x),rfl,F,λ_ G _ B _=>L (CH G B),λh=>H (CI h)⟩)
theorem qjR:FD X 101 qgK:=IN .nil (.cons qaP .nil) (by
 intro ps R E h;obtain⟨l,x,rfl,rfl,B,A⟩:=h
 (rw[<-qnZ];delta Z2 eM Z3x Rb ZT dK ll fO gA gD fP fQ pd Yo Z5 ZS jB wO sg Zbd)
 grind)
theorem qeX:LD X 58 9 (ah (aV 58 9) qn1):=LD.sw (.cons o8 .nil) .nil
 (A:=List aT×List aT×Nat×Int) aF (λa L k=>lvI a.1 a.2.1 L a.2.2.1 a.2.2.2 k) (λa=>a.2.2.1) 2 (λa L=>lvJ a.1 a.2.1 L a.2.2.1 a.2.2.2)
 (by
  rintro⟨h,g,n,i⟩ o k E hk hN ho hex Pn;dsimp only at*
  (rw[<-qn0];delta vU Zbj Zj Zl ZQ Fz Zs nT RD H8 H9 Za Zb Vo Nj Nk Zbf Zbg Zbi ZG ZM ZN uO qL wq uy Z7t Zn Zk sM Zbk D9 wR Z8 Z7 Z9 Vy tA jA ZF)
  refine b8 (λl=> ?_) λ_=>hex;obtain⟨x,y,e1,R,Q,B⟩:=Pn l;rw[e1,R];simp only[Q,zaa,zbi,ho]
  repeat' first |exact hex |exact B |refine ar (by omega) ?_ |refine ao (jG _) ?_ |refine⟨_,_,_,_,_,_,rfl,rfl,b8 (λ_=> ?_) λ_=>hex⟩)
 (by rintro s E ⟨h,g,o,L,n,i,k,rfl,rfl,⟨H,G,F⟩,l⟩;exact⟨(h,g,n,i),o,k,rfl,H,G,F,l⟩)
theorem qjS:LD X 58 3 (ah (aV 58 3) gLv):=LD.wk (.cons qgM (.cons qjR .nil)) (.cons qeX .nil)
 (A:=List aT×List aT) (B:=List ak) (λa o i=>lvH a.1 a.2 o i) (λa=>J a.1) (λa i o=>(J a.1<=1000000/\J a.2<=1000000)/\J o<=i)
 (λa x=> ∃o:List ak,J o<=J a.1/\x=(.exit 0,⟨72,[(5,.sl 0 0 (J o))],[(0,⟨0,Y,fw C o⟩)]⟩))
 (by
  rintro⟨h,g⟩ o i E h0 dE ⟨hm,F⟩ hn bF;dsimp only at*
  (rw[<-qn2];delta RE vU Zbj Zj Zl Ei Zbr ZM ZN eM ZQ Z8 Z7 Zs uO wS Zbn Zbo dK Zbp oH ll Z3x Rb fO gA gD fP fQ fe gW tj Ej Zz ZA ZL sg qL wq uy Zv y8 Zn Zbs Zbt Mm Mn UG)
  simp only[zaa,zav,zaI,zaE];refine b8 (λl=> ?_) λ_=>bF _ _ (λh=>by cases h) ⟨o,by omega,rfl⟩;rw[aA eK h i.toNat (by omega)];generalize h[i.toNat]=d;have no:qea (i+1) (E (.normal,lvH h g o (i+1))):=ar (by omega) (hn o l ⟨hm,by omega⟩);refine ar ⟨h0,l⟩ (ao (Ek _) (ar ⟨h0,l⟩ (ao (Ek _) ⟨g,d,rfl,rfl,hm.2,λb _=>az (λ_=>no) λ_=>⟨o,d.1,rfl,rfl,by omega,λU _=>az (λ_=>no) λ_=>ao ?_ (ar (by omega) ⟨h,g,o++[d.1],_,J o+1,i,_,rfl,bx aF o d.1,⟨⟨by omega,by omega⟩,by omega,by simp⟩,λG H=>ar (by omega) ?_⟩)⟩⟩)))
  ·rw[zac];exact⟨by simp,dw (by omega) (by omega)⟩
  rw[<-H];exact hn G l ⟨hm,by omega⟩)
 (by rintro s E ⟨h,g,rfl,Q,R⟩;refine⟨(h,g),[],rfl,⟨Q,by simp⟩,?_⟩;rintro e s ⟨o,F,L⟩;cases L;exact R o F)
theorem qjT:FD X 58 qgL:=IN .nil (.cons qjS .nil) (by
 intro ps R E l;obtain⟨h,g,rfl,rfl,A,B⟩:=l
 (rw[<-qsd];delta eM tj Ej dK sg Zbw y8 xH Zbv Z5 Pk ZV UH uO qL wq uy)
 grind)
end
abbrev PA(f:D->Option D)(c:Int):Obj:= .map 121 f c C
abbrev qaQ(z:Bool)(f:D->Option D)(c:Int):Obj:= .map 49 f c z
abbrev co3(h g:List aT)(f:D->Option D)(c i:Int):S:=⟨31,[(1,gK g),(5,.mp 0 0),(11,gK h),(12,iD (J (h.map eK):Int)),(13,iD i)],[(0,⟨0,Y,PA f c⟩)]⟩
def Zbz f c:=[(0,we 0 Y (HH 121 f c C))]
def Zby h i l:=NO (AM [Zbn h i,ue DD (AC (vc (wS h i) k7)),ue DD (AC (vc (wS h i) (k7+1))),ue DD (AC (vc (wS h i) B1)),ue DD (AC (vc (wS h i) (B1+1)))]) l
def Zbx h:=(12,Cs (ue DD (↑(J (uO h)):Int)))
theorem qgN h g f c i E:(bif UG i h then ob (Mn i h) (ob (Mm h i) (ob (Zv i) (E (xz,AD 31 [wq g,Pw,(11,qL h),Zbx h,(13,ZA i)] [(0,we 0 Y (HH 121 (λl=>bif Zby h i l then Z jh else f l) (bif ir (f (Zbt h i)) then c else c+(1:Int)) C))])))) else E (CE 0,AD 31 (wq g::ZaK) (Zbz f c)))=(aG [] [] 87 3 (co3 h g f c i)) E:=by kernel_rfl
def qsf:S->K (PX×S):=λs E=> ∃h g,s=co3 h g (λ_=>Y) 0 0/\J h<=1000000/\ ∀f c,f=Dp (h.map eK)->E (.exit 0,⟨31,[(1,gK g),(5,.mp 0 0)],[(0,⟨0,Y,PA f c⟩)]⟩)
abbrev co8(g:List aT)(f:D->Option D)(c i:Int):S:=⟨31,[(5,.mp 0 0),(21,gK g),(22,iD (J (g.map eK):Int)),(23,iD i)],[(0,⟨0,Y,PA f c⟩)]⟩
def ZbA g:=(22,Cs (ue DD (↑(J (uO g)):Int)))
theorem qgO g f c i E:(bif UG i g then ob (Mn i g) (ob (Mm g i) (ob (Zv i) (E (xz,AD 31 [Pw,(21,qL g),ZbA g,(23,ZA i)] [(0,we 0 Y (HH 121 (λh=>bif Zby g i h then Y else f h) (bif ir (f (Zbt g i)) then c-(1:Int) else c) C))])))) else E (CE 2,AD 31 ZaK (Zbz f c)))=(aG [] [] 87 8 (co8 g f c i)) E:=by kernel_rfl
def qsg:S->K (PX×S):=λs E=> ∃g L c,s=co8 g (Dp L) c 0/\J g<=1000000/\ ∀f c,f=Dp ((g.map eK).foldl ux L)->E (.exit 2,⟨31,[(5,.mp 0 0)],[(0,⟨0,Y,PA f c⟩)]⟩)
def ZbB:=[(13,Cs Z5)]
def hCo:bc:=λps R E=> ∃h g,ps=[gK h,gK g]/\R=[]/\(J h<=1000000/\J g<=1000000)/\ ∀f c,f=Dp ((g.map eK).foldl ux (h.map eK))->E (.mp 0 0,[(0,⟨0,Y,PA f c⟩)])
abbrev lv3(f:D->Option D)(c:Int)(g:D->Option D)(e:Option (D×D)):S:=⟨23,[(5,.mp 0 0),(11,.ref 1 0 0)],[(0,⟨0,Y,qaQ C f c⟩),(1,⟨0,Y,.iter 121 103 g e⟩)]⟩
def ZbE:=[Pw,(11,jB)]
theorem qn3 f c g e E:((∀k x,g k=Z x->ob (bE PR (121:I) k) (ob (bE PR (103:I) x) (E (xz,AD 23 ZbE [(0,we 0 Y (HH 49 (λh=>bif T2 k h then Z jh else f h) (bif ir (f (xM k)) then c else c+(1:Int)) C)),(1,we 0 Y (Q4 121 103 (λh=>bif NO (AM [T1 k,ue DD (AC (vc k k7)),ue DD (AC (vc k (k7+1))),ue DD (AC (vc k B1)),ue DD (AC (vc k (B1+1)))]) h then Y else g h) (Z (AM [T1 k,X8 k,X7 k,ue DD (AC (vc k 3)),ue DD (AC (vc k 4))],jh))))]))))/\(Q9 g->E (CE 0,AD 23 ZaK [(0,I6 f c)])))=(bV [] [] [] 50 3 (lv3 f c g e)) E:=by kernel_rfl
def qn4:S->K (PX×S):=λs E=> ∃L,s=lv3 (λ_=>Y) 0 (Dp L) Y/\(∀d∈L,∃x,d=eK x)/\ ∀V c,V.Nodup->(∀x,x∈V↔ ∃d,eK d∈L/\d.1=x)->J V<=J L->E (.exit 0,⟨23,[(5,.mp 0 0)],[(0,⟨0,Y,qaQ C (du V) c⟩)]⟩)
abbrev fKy:=133
abbrev qjU:=Z ([2],[2])
abbrev kyR(f:D->Option D)(c:Int):List (Nat×En):=[(0,⟨0,Z 2,.cS⟩),(1,⟨0,Z 0,.box 160 [.mp 2 0]⟩),(2,⟨0,Z 1,qaQ O f c⟩)]
abbrev kyI(f:D->Option D)(c:Int)(g:D->Option D)(e:Option (D×D)):S:=⟨14,[(0,.mp 0 0),(1,.ref 1 0 0),(5,.ref 3 0 0)],kyR f c++[(3,⟨0,Y,.iter 49 103 g e⟩)]⟩
abbrev kyE(f:D->Option D)(c:Int):S:=⟨14,[(0,.mp 0 0),(1,.ref 1 0 0)],kyR f c⟩
abbrev Mp(o:List ak)(n:Nat):S:=⟨13,[(2,.ref 0 0 0)],[(0,⟨0,Y,.box 50 [.sl 1 0 n]⟩),(1,⟨0,Y,fw C o⟩)]⟩
def ZbL o:=[(1,tj o)]
def ZbK:=[Pr]
def ZbJ f c:=(2,we 0 (Z 1) (HH 49 f c O))
def ZbI:=(1,we 0 (Z 0) (GT (160:I) [P.mp 2 0]))
def ZbH:=(0,we 0 (Z 2) Obj.cS)
def PB:=RK 3 0 0
def ZbG:=[Zau,(1,jB),(5,PB)]
theorem qn5 f c g e o (n:Nat) E:((∀k x,g k=Z x->ob (bE PR (49:I) k) (ob (bE PR (103:I) x) (ob (gr n (oH o)&&aB (Z3l n k) 24) (E (xz,AD 14 ZbG [ZbH,ZbI,ZbJ f c,(3,Z3d k g)],xz,AD 13 ZbK [(0,we 0 Y (GT (50:I) [If 1 0 (Z3l n k)])),(1,Z3o n o k)])))))/\(Q9 g->E (CE 0,AD 14 [Zau,(1,jB)] [ZbH,ZbI,ZbJ f c],xz,AD 13 ZbK ((0,we 0 Y (GT (50:I) [If 1 0 n]))::ZbL o))))=(Am [] [] 178 3 2000000 qjU 2 fKy 1 (kyI f c g e,(.normal,Mp o n))) E:=by kernel_rfl
def gKy:FJ:=λy E=> ∃V c,(J V<=1000000/\V.Nodup)/\y=(kyI (du V) c (du V) Y,(.normal,Mp [] 0))/\ ∀o,o.Perm V->E (.exit 0,kyE (du V) c,(.normal,Mp o (J o)))
abbrev asR(f:D->Option D)(c:Int):List (Nat×En):=[(0,⟨0,Z 0,.box 160 [.mp 1 0]⟩),(1,⟨0,Z 1,qaQ C f c⟩)]
abbrev asA(f:D->Option D)(c:Int):S:=⟨13,[(0,.d .cd),(1,.fn fKy [.ref 0 0 0]),(2,.ref 1002 0 0),(4,.sl 1004 0 0),(6,.fn fKy [.ref 0 0 0])],asR f c++[(1002,⟨0,Y,.box 50 [.sl 1002000 0 0]⟩),(1004,⟨0,Y,fw C []⟩),(1002000,⟨0,Y,fw C []⟩)]⟩
def ZbM:=[(1,xH)]
def gAs:S->K (PX×S):=λs E=> ∃V c,s=asA (du V) c/\(J V<=1000000/\V.Nodup)/\ ∀o,o.Perm V->E (.normal,Mp o (J o))
def ZbQ(V:List ak) h:=(1,we 0 (Z 1) (HH 49 (λx=>match x with |AM [ue DD a,ue DD b,ue DD c]=>i7 (λ_=>jh) ((λx=>if x∈V then Z () else Y) (a,b,c))|_=>Y) h C))
def ZbP:=(0,we 0 (Z 0) (GT (160:I) [P.mp 1 0]))
def hAs:bc:=λps R E=> ∃V c,ps=[.d .cd,.fn fKy [.ref 0 0 0]]/\R=asR (du V) c/\(J V<=1000000/\V.Nodup)/\ ∀o,o.Perm V->E (.sl 0 0 (J o),[(0,⟨0,Y,fw C o⟩)])
def ZbS:=[P.fn (133:FuncId) oI]
def qn6:bc:=λps R E=> ∃V c,ps=[.fn fKy [.ref 0 0 0]]/\R=asR (du V) c/\(J V<=1000000/\V.Nodup)/\ ∀o,o.Perm V->E (.sl 0 0 (J o),[(0,⟨0,Y,fw C o⟩)])
theorem qn7 f c E:(∃V l,ZbS=ZbS/\[ZbP,OV f c]=[ZbP,ZbQ V l]/\Z3r V/\ ∀o,List.Perm o V-> ∃es,sg o::Z3s=If 0 0 (J es)::Z3s/\Rb o=[(0,we 0 (Z 0) (AS (49:I) C es))]/\nO PR oB (78:FuncId) es cfX/\ ∀h,List.Perm h es->Z3u h->E (sg o,Zbj h))=(fK [(132,um 78 cfX 49)] [(131,qn6)] [] 88 [.fn fKy [.ref 0 0 0],.fn 78 []] (asR f c)) E:=by kernel_rfl
def qn8:bc:=λps R E=> ∃V c,ps=[.fn fKy [.ref 0 0 0],.fn 78 []]/\R=asR (du V) c/\(J V<=1000000/\V.Nodup)/\ ∀o,o=dL kr V->E (.sl 0 0 (J o),[(0,⟨0,Y,fw C o⟩)])
theorem qn9 h g E:(∃l B,[qL h,qL g]=[qL l,qL B]/\Zn/\(y8 l/\y8 B)/\ ∀(f:D->Option D) (_:Int),f=Dp (List.foldl ux (uO l) (uO B))-> ∃L,AD 23 ZbE [(0,Dd),(1,we 0 Y (Q4 121 103 f Y))]=AD 23 ZbE [(0,Dd),(1,we 0 Y (Q4 121 103 (λd=>bif List.any L λx=>NO x d then Z jh else Y) Y))]/\(∀d,d∈L-> ∃(x:aT),d=AM [ue DD (ba (ba x)),ue DD (ba (bl (ba x))),ue DD (bl (bl (ba x))),ue DD (ba (bl x)),ue DD (bl (bl x))])/\ ∀V c,List.Nodup V->(∀x,x∈V↔ ∃d,eK d∈L/\ba d=x)->dK V<=J L-> ∃A F,P.fn (133:FuncId) oI::Z3s=P.fn (133:FuncId) oI::Z3s/\[ZbP,ZbQ V c]=[ZbP,ZbQ A F]/\Z3r A/\ ∀o,o=dL kr A->Zbw E o)=(fK [(87,hCo)] [(88,qn8)] [(3,ah (aV 50 3) qn4)] 50 [gK h,gK g] []) E:=by kernel_rfl
def Iv:bc:=λps R E=> ∃h g,ps=[gK h,gK g]/\R=[]/\(J h<=1000000/\J g<=1000000)/\ ∀o,o=lvX h g->E (.sl 0 0 (J o),[(0,⟨0,Y,fw C o⟩)])
theorem R4{l i}(h:i<J l):(l.take (i+1)).map eK=(l.take i).map eK++[eK l[i]]:=by rw[zah h,zaC];rfl
theorem CJ: ∀(g L:List D) (d:D),d∈g.foldl ux L↔d∈L/\d∉g
 | [],L,d=>by simp
 |k::g,L,d=>by rw[zbh,CJ g,wi,zao,zcO,and_assoc]
theorem Mq: ∀(g L:List D),J (g.foldl ux L)<=J L
 | [],_=>zag _
 |_::g,_=>zaJ (Mq g _) (zaQ _ _)
theorem R5{a b}(h:eK a=eK b):a=b:=by obtain⟨⟨G,F,B⟩,A,l⟩:=a;simp_all [eK,iE,D.agg.injEq,D.int.injEq]
section
variable{X:XF}
theorem qeY:LD X 87 3 (ah (aV 87 3) qsf):=LD.idx .nil .nil
 (A:=List aT×List aT) (B:=Int) (λa c i=>co3 a.1 a.2 (Dp ((a.1.take i.toNat).map eK)) c i) (λa=>J a.1) (λa _ _=>J a.1<=1000000)
 (λa x=> ∃c,x=(.exit 0,⟨31,[(1,gK a.2),(5,.mp 0 0)],[(0,⟨0,Y,PA (Dp (a.1.map eK)) c⟩)]⟩))
 (by
  rintro⟨h,g⟩ c i E h0 dE bB F hn ho
  (rw[<-qgN];delta Zbz CC Pw ZaK Zs uO wS Zbs Zbn Zbt jh k7 B1 Zby Zz ZA Zbx qL wq Z8 Z7 Zv Mm Mn UG)
  have e1:BC (h.map eK) i.toNat=eK h[i.toNat]:=aA _ _ _ bB;have H:(i+1).toNat=i.toNat+1:=by omega
  have l:=λG=>hn G F;rw[H,R4 bB] at l;simp only[co3,zaa] at l⊢;rw[e1];generalize h[i.toNat]=x at*
  rw[<-qeR] at l;exact dv dE (ar ⟨h0,dE⟩ (ao (Ek _) (ar (by omega) (l _)))))
 (by
  rintro⟨h,g⟩ c i E hi F ho;dsimp only at*
  (rw[<-qgN];delta Zbz CC Pw ZaK Zs uO wS Zbs Zbn Zbt jh k7 B1 Zby Zz ZA Zbx qL wq Z8 Z7 Zv Mm Mn UG)
  simp only[zaa];refine Cj (by omega) (ho _ (λh=>by cases h) ⟨c,?_⟩);rw[show i.toNat=J h by omega,zan])
 (by rintro s E ⟨h,g,rfl,F,L⟩;refine⟨(h,g),0,rfl,F,?_⟩;grind)
theorem qeZ:LD X 87 8 (ah (aV 87 8) qsg):=LD.idx .nil .nil
 (A:=List aT×List D) (B:=Int) (λa c i=>co8 a.1 (Dp (((a.1.take i.toNat).map eK).foldl ux a.2)) c i) (λa=>J a.1) (λa _ _=>J a.1<=1000000)
 (λa x=> ∃c,x=(.exit 2,⟨31,[(5,.mp 0 0)],[(0,⟨0,Y,PA (Dp ((a.1.map eK).foldl ux a.2)) c⟩)]⟩))
 (by
  rintro⟨g,L⟩ c i E h0 dE bB F hn ho
  (rw[<-qgO];delta Zbz CC Pw ZaK Zs uO wS Zbs Zbn Zbt k7 B1 Zby Zz ZA ZbA qL Z8 Z7 Zv Mm Mn UG)
  have e1:BC (g.map eK) i.toNat=eK g[i.toNat]:=aA _ _ _ bB;have H:(i+1).toNat=i.toNat+1:=by omega
  have l:=λG=>hn G F;rw[H,R4 bB,zbZ] at l;simp only[co8,zaa,zbh,List.foldl_nil] at l⊢;rw[e1];generalize g[i.toNat]=x at*
  rw[<-RX] at l;exact dv dE (ar ⟨h0,dE⟩ (ao (Ek _) (ar (by omega) (l _)))))
 (by
  rintro⟨g,L⟩ c i E hi F ho;dsimp only at*
  (rw[<-qgO];delta Zbz CC Pw ZaK Zs uO wS Zbs Zbn Zbt k7 B1 Zby Zz ZA ZbA qL Z8 Z7 Zv Mm Mn UG)
  simp only[zaa];refine Cj (by omega) (ho _ (λh=>by cases h) ⟨c,?_⟩);rw[show i.toNat=J g by omega,zan])
 (by rintro s E ⟨g,L,c,rfl,F,Q⟩;refine⟨(g,L),c,rfl,F,?_⟩;grind)
theorem qsh:FD X 87 hCo:=IN .nil (.cons qeY (.cons qeZ .nil)) (by intro ps R E B;obtain⟨h,g,rfl,rfl,⟨G,F⟩,A⟩:=B;exact⟨h,g,rfl,G,λf c l=>⟨g,h.map eK,c,by rw[l];rfl,F,λf c l=>A f c l⟩⟩)
end
section
variable{X:XF}{w0:World}(hX:b7 PR w0 X.cf)
include hX
theorem qoa:LN w0 50 3 (ah (aV 50 3) qn4):=LN.par hX (by rfl) .nil .nil .nil
 (A:=List D) (B:=List ak×List D×Option (D×D)×Int)
 (λ_ b=>lv3 (du b.1) b.2.2.2 (Dp b.2.1) b.2.2.1)
 (λl b=>(∀d∈l,∃x:aT,d=eK x)/\b.1.Nodup/\(∀d∈b.2.1,d∈l)/\(∀x,x∈b.1↔ ∃d:aT,(eK d∈l/\eK d∉b.2.1)/\d.1=x)/\J b.1+J b.2.1<=J l)
 (λ_ b=>J b.2.1)
 (λl x=> ∃V c,V.Nodup/\(∀x,x∈V↔ ∃d:aT,eK d∈l/\d.1=x)/\J V<=J l/\x=(.exit 0,⟨23,[(5,.mp 0 0)],[(0,⟨0,Y,qaQ C (du V) c⟩)]⟩))
 (by
  rintro l ⟨V,L,e,c⟩ ⟨hd,H,G,hv,hl⟩
  (rw[<-qn3];delta qw I6 CC Pw ZaK Q9 X7 X8 k7 B1 T1 xM jh T2 jB ZbE)
  refine⟨λk x hk=> ?_,λcD=> ?_⟩
  ·obtain⟨Q,uK⟩:=qaE hk;obtain⟨d,rfl⟩:=hd k (G k Q);subst uK;have R:=RX L (eK d);have F:=HT (V:=V) (x:=d.1);have U:=qaG Q;have hvl:J (HM V d.1)<=J V+1:=by grind [HM]
   refine ao (Ek d) (ao O0 ⟨_,U,(HM V d.1,ux L (eK d),Z (eK d,.agg []),bif (du V (aF d.1)).isSome then c else c+1),?_,⟨hd,Fj H,λy hy=>G y (wi.1 hy).1,λy=> ?_,?_⟩,rfl⟩)
   ·show _=lv3 (du (HM V d.1)) _ (Dp (ux L (eK d))) (Z (eK d,.agg []));rw[<-R,<-F];rfl
   ·grind [qdv,wi,eK,R5]
   grind
  have:=qaF cD;subst this;refine⟨V,c,H,λy=> ?_,by grind,rfl⟩;rw[hv];simp)
 (by
  rintro s E ⟨L,rfl,hd,hp⟩;refine⟨L,([],L,Y,0),by rw[Re],⟨hd,by simp,λd h=>h,λx=> ?_,by simp⟩,?_⟩
  ·simp
  grind)
theorem qsj:LY w0 178 3 2 fKy 1 (j7 (aV fKy 1) gKy):=LY.par hX (base:=2000000) (keep:=qjU) .nil .nil (by rfl) (by rfl) (by rfl)
 (A:=List ak×Int) (B:=List ak×List ak×Option (D×D))
 (λa b=>(kyI (du a.1) a.2 (du b.2.1) b.2.2,(.normal,Mp b.1 (J b.1))))
 (λa b=>J a.1<=1000000/\b.2.1.Nodup/\(b.1++b.2.1).Perm a.1)
 (λ_ b=>J b.2.1)
 (λa x=> ∃o:List ak,o.Perm a.1/\x=(.exit 0,kyE (du a.1) a.2,(.normal,Mp o (J o))))
 (by
  rintro⟨V,c⟩ ⟨out,L,e⟩ ⟨G,l,Q⟩;dsimp only at*
  (rw[<-qn5];delta eM tj ZbL jB CC Zau Q9 X7 X8 T1 xM Z3o cp Pr ZbK jh k7 T2 Z3d ZbJ ZbI ZbH PB ZbG Z3l oH)
  have U:=Q.length_eq;rw[zaf] at U;refine⟨λk v hk=> ?_,λcD=> ?_⟩
  ·obtain⟨x,H,rfl,rfl⟩:=vV hk;have R:=z6 l x;have h0:0<J L:=zcg H;have h:J (L.erase x)<J L:=by rw[zcb H];omega
   have F:=bx aF out x;refine ao (jG x) (ao O0 (ao ?_ ⟨_,h,(out++[x],L.erase x,Z (aF x,.agg [])),?_,⟨G,l.erase _,?_⟩,rfl⟩))
   ·skip
    simp[aB];omega
   ·show _=(kyI (du V) c (du (L.erase x)) (Z (aF x,.agg [])),(xz,Mp (out++[x]) (J (out++[x]))))
    simp only[kyI,Mp,fw];rw[<-R,<-F,zaf];rfl
   grind
  have:=vW cD;exact⟨out,by grind,rfl⟩)
 (by rintro y E ⟨V,c,⟨G,l⟩,rfl,Q⟩;refine⟨(V,c),([],V,Y),rfl,⟨G,l,by simp⟩,?_⟩;grind)
theorem qsk:FN w0 178 3 gAs:=FN.mk hX .nil .nil (base:=2000000) (keep:=qjU) (by rfl) (hk:=λF B=>if bo F fKy&&bo B 2 then [(1,j7 (aV fKy 1) gKy)] else [])
 (by
  intro F B h U l;split at l
  next A=>
   rw[zac] at A;have e1:=zad A.1;have R:=zad A.2;subst e1 R;unfold lk at l;split at l
   next L=>have Q:=zad L;subst Q;cases l;exact⟨by rfl,qsj hX⟩
   cases l
  cases l)
 (by rintro s E ⟨V,c,rfl,H,G⟩;exact⟨V,c,H,rfl,G⟩)
theorem qsl:ND w0 178 hAs:=ND.mk hX .nil .nil (.range (qsk hX) .nil) (by intro ps R E A;obtain⟨V,c,rfl,rfl,l,h⟩:=A;exact⟨V,c,rfl,l,h⟩)
theorem qob:ND w0 131 qn6:=ND.mk hX .nil (.cons (qsl hX) .nil) .nil (by intro ps R E A;obtain⟨V,c,rfl,rfl,l,h⟩:=A;exact⟨V,c,rfl,rfl,l,h⟩)
theorem qoc:ND w0 88 qn8:=ND.mk hX (.cons Lv .nil) (.cons (qob hX) .nil) .nil (by
 intro ps R E H;obtain⟨V,c,rfl,rfl,⟨A,G⟩,U⟩:=H
 (rw[<-qn7];delta vU Zbj Z3u eM Z3x Rb Z3s dK sg ll Z3r jh ZbQ qw OV ZbP cp oI ZbS)
 refine⟨V,c,rfl,rfl,⟨A,G⟩,λo l=>⟨o.map aF,by rw[zaa],rfl,Yb o (by rw[l.length_eq];exact A),λdP L F=> ?_⟩⟩;obtain⟨Q,rfl,B⟩:=Yc aF qdA (λ_=>rfl) L;rw[za1] at F;have e:=B5 fR (B.trans l) (F.imp λ{a b} h=>by rw[qd] at h;grind);rw[<-B.length_eq];grind)
theorem qod:ND w0 50 Iv:=ND.mk hX (.cons qsh .nil) (.cons (qoc hX) .nil) (.loop (by decide) (qoa hX).T .nil) (by
 intro ps R E F;obtain⟨h,g,rfl,rfl,⟨B,G⟩,l⟩:=F
 (rw[<-qn9];delta eM tj Ej dK sg Zbw ll Z3r jh ZbQ ZbP Z3s cp oI M9 Dd jB CC Pw ZbE uO y8 Zn qL)
 refine⟨h,g,rfl,rfl,⟨B,G⟩,λf c H=>⟨(g.map eK).foldl ux (h.map eK),by rw[H];rfl,λd hd=> ?_,λV c A U Q=>⟨V,c,rfl,rfl,⟨?_,A⟩,λo L=>l o ?_⟩⟩⟩
 ·obtain⟨x,_,rfl⟩:=zal.1 ((CJ _ _ _).1 hd).1;exact⟨x,rfl⟩
 ·have:=Mq (g.map eK) (h.map eK);rw[zaa] at this;omega
 grind [qjK,CJ,R5,List.mem_map_of_mem])
end
open Classical in
noncomputable def tC(h:bc):TF:=λps R=>if e: ∃y,h ps R (λz=>z=y) then some e.choose else none
def Det(h:bc):= ∀ps R y E,h ps R (λz=>z=y)->h ps R E->E y
theorem ke{h ps R y}(e:tC h ps R=Z y):h ps R (λz=>z=y):=by
 unfold tC at e;split at e
 next l=>rw[<-zaT e];exact l.choose_spec
 cases e
noncomputable def XF.tell(X:XF) f (g:TF)(A:gE f xsB=C):XF:=⟨λl ps R=>if bo f l then g ps R else X.cf l ps R,λl h ps R=>by
 show(if bo f l=O then g ps R else X.cf l ps R)=_;rw[zat]
 ·exact X.eq l h ps R
 intro e;rw[zad e,h] at A;cases A⟩
theorem XF.sx{X:XF}{f g}{G:gE f xsB=C}{w0}(H:w0.drawn=0)(hX:b7 PR w0 X.cf)(F:zN PR w0 f g):b7 PR w0 (X.tell f g G).cf:=by
 intro l ps R p B h;have A:(if bo f l=O then g ps R else X.cf l ps R)=Z (p,B):=h;clear h;split at A
 next e=>have e:=zad e;subst e;exact F H ps R p B A
 exact hX l ps R p B A
theorem FD.told{X f fn h}(F:PR.funcs[f]?=Z fn)(B:gE f xsT=O)(hd:Det h)(A: ∀ps R E,h ps R E-> ∃y,h ps R (λz=>z=y))(hX: ∀ps R,X.cf f ps R=tC h ps R):FD X f h:=
 W8.M6 F B λps R E l=>by have e:=A ps R E l;refine⟨e.choose,?_,hd ps R _ E e.choose_spec l⟩;refine(hX ps R).trans ?_;unfold tC;rw[dif_pos e]
def Mr V:=(8,we 0 (Z 8) (AS (121:I) O (bQ.L V)))
def Ms V:=(7,we 0 (Z 7) (AS (121:I) O (bQ.H V)))
def PC o:=Cs (IM 3 (OU o))
def ZbT h V l:=AD 48 (fq::Z6M::(3,If 10 0 (fp h))::(18,If 10 0 (fp h))::Z1I h) (Z6Y V h l)
theorem qjV V E:(∃l,[Cs (IM 3 (ab (J (bQ.A V)) (bQ.A V))),Cs (IM 8 (ab (J (bQ.P V)) (bQ.P V)))]=ZaM l/\Zn/\Vw l/\ ∀o,o=Ag (List.foldl Ic [] l)-> ∃m G,Z6F o=Z6F m/\Dh o V=Dh m G/\iB m/\ ∀o tl,o=List.filter (lr G) m-> ∃F B V,ZbT o G tl=ZbT F V B/\iB F/\ ∀Q,Q=aa (rS V) F-> ∃h g,[Cs (IM 5 (ab (J (bQ.H V)) (bQ.H V))),Cs (IM 5 (ab (J (bQ.L V)) (bQ.L V)))]=[qL h,qL g]/\Zn/\(y8 h/\y8 g)/\ ∀o,o=lvX h g-> ∃l live,[Cs (IM 8 (ab (fp F) (fI Q++B))),PC o]=[jP l,gC live]/\Zn/\(O2 l/\dK live<=1000)/\E (If 9 0 (J (mP (il l) (tg live))),[Cn V,Cm V,Z6Q V,Cl V,D5 V,D4 V,Ck V,Ms V,Mr V,(9,we 0 Y (AS (66:I) C (aa fV (mP (il l) (tg live)))))]))=(aO [(46,Ir),(47,hDp),(50,Iv),(49,qe)] [(4,ah (aV 25 4) qmY)] 25 [.ref 0 0 0] (vwZ C V)) E:=by kernel_rfl
def qaR V (l:List Td) h g:=mP (il (((Ag (l.foldl Ic [])).filter (lr V)).map (rS V))) (tg (lvX h g))
abbrev qsm(V:bQ):List (Nat×En):=[(0,⟨0,Z 0,.box 74 [.sl 1 0 (J V.gs),.sl 2 0 (J V.os),.mp 3 0,.sl 4 0 (J V.A),.sl 5 0 (J V.P),.mp 6 0,.sl 7 0 (J V.H),.sl 8 0 (J V.L)]⟩),(1,⟨0,Z 1,.arr 31 C V.gs⟩),(2,⟨0,Z 2,.arr 27 C V.os⟩),(3,⟨0,Z 3,.map 27 V.f V.c C⟩),(4,⟨0,Z 4,.arr 49 O V.A⟩),(5,⟨0,Z 5,.arr 108 O V.P⟩),(6,⟨0,Z 6,.map 49 V.d V.n C⟩),(7,⟨0,Z 7,.arr 121 O V.H⟩),(8,⟨0,Z 8,.arr 121 O V.L⟩)]
def qoe:bc:=λps R E=> ∃V l h g,ps=[.ref 0 0 0]/\R=vwZ C V/\(V.A=(l.map (·.1)).map aF/\V.P=(l.map (·.2)).map bI/\V.H=h.map eK/\V.L=g.map eK)/\(J l<=1000/\J h<=1000/\J g<=1000000)/\
 ∀x,x=qaR V l h g->E (.sl 9 0 (J x),qsm V++[(9,⟨0,Y,.arr 66 C (x.map fV)⟩)])
theorem Mt g: ∀h o,J (h.foldl (Y9 g) o)<=J o+J h
 | [],o=>by simp
 |d::h,o=>by have A:=Mt g h (Y9 g o d);have l:=qel g o d;simp only[zbh,zav];omega
theorem qaS l:J (l.foldl Ic [])<=J l:=by have:=Ie l [];simpa using this
section
variable{X:XF}
theorem qof(h1:FD X 46 Ir)(h2:FD X 50 Iv)(h3:FD X 49 qe):FD X 25 qoe:=IN (.cons h1 (.cons qrK (.cons h2 (.cons h3 .nil)))) (.cons qd4 .nil) (by
 intro ps R E hh;obtain⟨V,l,h,g,ep,er,⟨hA,hP,hH,hL⟩,⟨hl,M5,hg1⟩,hp⟩:=hh
 (rw[ep,er,<-qjV];delta Mr Ms Ft Ck Fu D4 Fv D5 Fw Cl Rv Z6Q Fx Cm kP Ac Vn Cn dK fp O2 eM gC fI jP OU PC y8 uO qL cp oI Z6X Uf Z6W Ug Z6V Z6Y Z5 qa Z1I Z6M fq ZbT iB qh Z6w YO Dh jB qQ Z6F oK Vw Zn Vv Ef ZaM)
 have e1:V.A.take (J V.A)=(l.map (·.1)).map aF:=by rw[zan,hA]
 have e2:V.P.take (J V.P)=(l.map (·.2)).map bI:=by rw[zan,hP]
 have e3:V.H.take (J V.H)=h.map eK:=by rw[zan,hH]
 have e4:V.L.take (J V.L)=g.map eK:=by rw[zan,hL]
 have b1:=qaS l;have b2:=Ah (l.foldl Ic []);have b3:=zaQ (lr V) (Ag (l.foldl Ic []));have b4:J (lvX h g)<=J h:=by simpa [lvX] using Mt g h []
 refine⟨l,by rw[e1,e2],rfl,by omega,λo ho=> ?_⟩;have uo:J o<=1000:=by rw[ho];omega
 refine⟨o,V,rfl,rfl,by omega,λo1 tl G=> ?_⟩;have U:J o1<=1000:=by rw[G];have:=zaQ (lr V) o;omega
 refine⟨o1,tl,V,rfl,by omega,λQ Xb=>⟨h,g,by rw[e3,e4],rfl,⟨by omega,hg1⟩,λB F=>⟨Q,B,?_,rfl,⟨by rw[Xb,zaa];exact U,by rw[F];omega⟩,?_⟩⟩⟩
 ·have t1:(Q.map bI++tl).take (J o1)=Q.map bI:=zbH (by rw[Xb];simp);have t2:(B.map aF).take (J B)=B.map aF:=zak (by simp);rw[t1,t2]
 have:mP (il Q) (tg B)=qaR V l h g:=by rw[Xb,G,ho,F];rfl
 rw[this];exact hp _ rfl)
end
abbrev hd0:Hd:=((0,0),(0,0))
def qgP:S->K (PX×S):=λA E=> ∃l out i b,A=qju l out b i 0/\(J out<=1000000/\0<=i/\i<(J l:Int))/\ ∀h,E (.exit 2,⟨80,[(0,Ed l),(3,.sl 0 0 (J out)),(4,iD i),(5,.d (.bool h))],[(0,⟨0,Y,Dl C out⟩)]⟩)
abbrev qog(l:List Hd)(L:List D)(n:Nat)(i:Int):S:=⟨80,[(0,Ed l),(3,.sl 0 0 n),(4,iD i)],[(0,⟨0,Y,.arr 77 C L⟩)]⟩
def qgQ:S->K (PX×S):=λA E=> ∃l,∃o,∃L n i k,A=qjw l L n i k/\L=o.map dX/\((0<=k/\k<n)/\n<=1000001/\J o=n)/\ ∀h,J h=n->E (.exit 4,qog l (h.map dX) n i)
def ZbX l h:=[AM [ue DD (AC (vc (FO l h) 0)),ue DD (AC (vc (FO l h) 1)),ue DD (AC (vc (FO l h) 2)),ue DD (AC (vc (FO l h) 3))]]
def ZbY h A l:=(↑(jg h+J (ZbX A l)):Int)-(1:Int)
theorem qjW l out i E:(bif decide (i<(↑(J (aa dX l)):Int)) then∃F B A b,AD 80 (Mf l::Dm out::qO i::(5,Cs Z2)::Pk) (Jw out)=AD 80 (Mf F::Dm B::qO A::(5,iF b)::Pk) (Jw B)/\(FM B/\(0:Int)<=A/\A<(↑(jg F):Int))/\ ∀h,bif h then ob (Zv A) (E (xz,AD 80 (Mf F::Dm B::Cu A) (Jw B))) else ob (Z9Y A F) (ob (Vu F A) (ob (Z9y B&&aB (jg B+J (ZbX F A)) 32) (ob (decide (Z7<=ZbY B F A/\ZbY B F A<=Z8)) (∃l o L n i k,AD 80 [Mf F,(3,If 0 0 (jg B+J (ZbX F A))),qO A,(7,Cs (ue DD (ZbY B F A)))] [(0,we 0 Y (AS (77:I) C (Uz B++ZbX F A)))]=AD 80 [Mf l,(3,ZM n),qO i,sq k] (Za3 L)/\L=aa dX o/\(RE k n/\n<=1000001/\jg o=n)/\ ∀G,jg G=n->ob (Zv i) (E (xz,AD 80 (Mf l::(3,ZM n)::Cu i) (Jw G))))))) else E (CE 0,AD 80 [Dm out] (Jw out)))=(aG [] [(7,ah (aV 27 7) qgP),(13,ah (aV 27 13) qgQ)] 27 3 (qjy l out i)) E:=by kernel_rfl
def qgR:S->K (PX×S):=λh E=> ∃l,h=qjy l [] 0/\J l<=1000000/\ ∀o,J o<=J l->E (.exit 0,⟨80,[(3,.sl 0 0 (J o))],[(0,⟨0,Y,Dl C o⟩)]⟩)
def ZbZ:=we 0 Y (AS (77:I) C [])
def Zc0 h:=AD 80 (Mf h::Y1) [(0,ZbZ)]
theorem qoh l E:(∃h,Zc0 l=Zc0 h/\FM h/\ ∀o,jg o<=jg h->E (xT o,Jw o))=(aO [] [(3,ah (aV 27 3) qgR)] 27 [Ed l] []) E:=by kernel_rfl
def qoi:bc:=λps R E=> ∃l,ps=[Ed l]/\R=[]/\J l<=1000000/\ ∀o,J o<=J l->E (.sl 0 0 (J o),[(0,⟨0,Y,Dl C o⟩)])
def qoj:S->K (PX×S):=λh E=> ∃l,h=qeE l [] 0/\J l<=1000000/\ ∀o,J o=J l->E (.exit 0,⟨26,[(3,.sl 0 0 (J o))],[(0,⟨0,Y,Dl C o⟩)]⟩)
def Zc1 h:=AD 26 (iG h::Y1) [(0,ZbZ)]
theorem qok l E:(∃h,Zc1 l=Zc1 h/\sv h/\ ∀o,jg o=J h->E (xT o,Jw o))=(aO [] [(3,ah (aV 18 3) qoj)] 18 [ey l] []) E:=by kernel_rfl
def qol:bc:=λps R E=> ∃l,ps=[ey l]/\R=[]/\J l<=1000000/\ ∀o,J o=J l->E (.sl 0 0 (J o),[(0,⟨0,Y,Dl C o⟩)])
abbrev qjX(m on:List Hd)(i:Int)(h:Bool)(k:Int):S:=⟨63,[(3,.sl 0 0 (J m)),(4,.sl 1 0 (J on)),(5,iD i),(6,.d (.bool h)),(7,iD k)],[(0,⟨0,Y,Dl C m⟩),(1,⟨0,Y,Dl C on⟩)]⟩
def qgS:S->K (PX×S):=λl E=> ∃m on i b,l=qjX m on i b 0/\(J on<=1000000/\0<=i/\i<(J m:Int))/\ ∀h,E (.exit 2,⟨63,[(3,.sl 0 0 (J m)),(4,.sl 1 0 (J on)),(5,iD i),(6,.d (.bool h))],[(0,⟨0,Y,Dl C m⟩),(1,⟨0,Y,Dl C on⟩)]⟩)
def Zc3 m on:=[Nl m,(1,Z9R on)]
def Zc2 on:=(4,If 1 0 (jg on))
theorem qjY m on i h k E:(bif Z9O k on then bif h then ob (Zv k) (E (xz,AD 63 (Dm m::Zc2 on::zq i::(6,ZT)::ZR k) (Zc3 m on))) else ob (Z9U k on) (ob (Z9V k on) (ob (Vu on k) (ob (Z9U i m) (ob (Z9V i m) (ob (Vu m i) (ob (Zv k) (E (xz,AD 63 (Dm m::Zc2 on::zq i::(6,Cs (ID (AC (vc (FO on k) 2)==AC (vc (FO m i) 0)&&(AC (vc (FO on k) 3)==AC (vc (FO m i) 1)&&O))))::ZR k) (Zc3 m on))))))))) else E (CE 2,AD 63 [Dm m,Zc2 on,zq i,(6,iF h)] (Zc3 m on)))=(aG [] [] 17 8 (qjX m on i h k)) E:=by kernel_rfl
abbrev qe1(m on:List Hd)(i:Int):S:=⟨63,[(3,.sl 0 0 (J m)),(4,.sl 1 0 (J on)),(5,iD i)],[(0,⟨0,Y,Dl C m⟩),(1,⟨0,Y,Dl C on⟩)]⟩
abbrev qe2(on:List Hd)(out:List aN)(i:Int):S:=⟨63,[(4,.sl 0 0 (J on)),(8,.sl 1 0 (J out)),(9,iD i)],[(0,⟨0,Y,Dl C on⟩),(1,⟨0,Y,qT C out⟩)]⟩
def Zc4 on i:=[AM [ue DD (AC (vc (FO on i) 0)),ue DD (AC (vc (FO on i) 1))]]
theorem qjZ on out i E:(bif Z1 i then ob (Z9U i on) (ob (Z9V i on) (ob (Vu on i) (ob (gr (gX out) (Ab out)&&aB (gX out+J (Zc4 on i)) 16) (ob (Z9 i) (E (xz,AD 63 ((4,xT on)::(8,If 1 0 (gX out+J (Zc4 on i)))::Z7W i) [Nl on,(1,we 0 Y (AS (27:I) C (ab (gX out) (aa bX out)++Zc4 on i)))])))))) else E (CE 4,AD 63 [(8,wm out)] (Vx out)))=(aG [] [] 17 15 (qe2 on out i)) E:=by kernel_rfl
theorem qj0 m on i E:(bif Z9O i m then∃l B A b,AD 63 (Dm m::Zc2 on::zq i::(6,Cs Z2)::xD) (Zc3 m on)=AD 63 (Dm l::Zc2 B::zq A::(6,iF b)::xD) (Zc3 l B)/\(FM B/\(0:Int)<=A/\A<(↑(jg l):Int))/\ ∀h,bif !h then ob (Z9U A l) (ob (Z9V A l) (ob (Vu l A) (ob (Z9y B&&aB (jg B+J (ZbX l A)) 32) (ob (Zv A) (E (xz,AD 63 (Dm l::(4,If 1 0 (jg B+J (ZbX l A)))::ZB A) [Nl l,(1,we 0 Y (AS (77:I) C (Uz B++ZbX l A)))])))))) else ob (Zv A) (E (xz,AD 63 (Dm l::Zc2 B::ZB A) (Zc3 l B))) else E (CE 0,AD 63 [(4,xT on)] (Jw on)))=(aG [] [(8,ah (aV 17 8) qgS)] 17 4 (qe1 m on i)) E:=by kernel_rfl
def qgT:S->K (PX×S):=λh E=> ∃m,h=qe1 m [] 0/\J m<=1000000/\ ∀o,J o<=J m->E (.exit 0,⟨63,[(4,.sl 0 0 (J o))],[(0,⟨0,Y,Dl C o⟩)]⟩)
def qgU:S->K (PX×S):=λh E=> ∃on i,h=qe2 on [] i/\(i=(J on:Int)-1/\J on<=1000000)/\ ∀o,J o=J on->E (.exit 4,⟨63,[(8,.sl 0 0 (J o))],[(0,⟨0,Y,qT C o⟩)]⟩)
def Zc6 o:=(↑(jg o):Int)-(1:Int)
def Zc5 m:=AD 63 (Dm m::(4,Af)::ZS) [Nl m,(1,ZbZ)]
theorem qom l E:(∃h,[Cs (IM 4 (aa dX l))]=[Cs (IM 4 (aa dX h))]/\Zn/\FM h/\ ∀o,jg o<=jg h-> ∃m,Zc5 o=Zc5 m/\FM m/\ ∀o,jg o<=jg m->ob (decide (Z7<=Zc6 o/\Zc6 o<=Z8)) (∃on i,AD 63 [(4,xT o),(8,Af),(9,Cs (ue DD (Zc6 o)))] [Nl o,(1,Jy)]=AD 63 ((4,xT on)::(8,Af)::Z7Z i) [Nl on,(1,Jy)]/\(i=Zc6 on/\FM on)/\ ∀o,gX o=jg on->E (wm o,Vx o)))=(aO [(27,qoi)] [(4,ah (aV 17 4) qgT),(15,ah (aV 17 15) qgU)] 17 [Ed l] []) E:=by kernel_rfl
def qon:bc:=λps R E=> ∃l,ps=[Ed l]/\R=[]/\J l<=1000000/\ ∀o,J o<=J l->E (.sl 0 0 (J o),[(0,⟨0,Y,qT C o⟩)])
end Pi
