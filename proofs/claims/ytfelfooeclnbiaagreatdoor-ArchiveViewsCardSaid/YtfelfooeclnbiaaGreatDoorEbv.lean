/- The texts Wi3 Wi3H Wi4 Wi4H EfP HiP SN Hi1 QP Hi1H SR LnP InsP Ef1 Ef1H Ef3 VwP TrC T6 T6H T7 T7H T8 T8H T9 T9H RfP Rd RdH Ef4 Ef4H Ef6H Hi2 Hi2H Hi5 Hi5H Vw1 Vw1H Rp RpH Rm RmH Hi6H Ro Vw2 Vw2H RoH. -/
import Derived.Test.YtfelfooeclnbiaaGreatDoorEbu
import Derived.Lib.IndexAny
namespace Pi
open Go Go.Proofs
set_option maxRecDepth 100000
set_option maxHeartbeats 0
abbrev gbB(g:av):Obj:= .box 89 [iD g.s.1,iD g.s.2,iD g.n,.d (.sl 1 (bB g.deps)),iD g.lA.1,iD g.lA.2,qic g.ops]
abbrev gbR(g:av):List (Nat×En):=[(0,⟨0,none,gbB g⟩)]
def nX:bh:=λps R ae=> ∃g k x,ps=[.d (cu g),.d (cb x),iD k]/\R=[]/\ ∀b,b=cJ g.s k x->ae (jU b,[])
def R5:bh:=λps R ae=> ∃g k x,ps=[.d (cu g),.d (cb x),iD k]/\R=[]/\ ∀b,b=rN g.s k x->ae (jU b,[])
def Jo:bh:=λps R ae=> ∃o a b c d e,ps=[.d (fY o),jU a,jU b,jU c,jU d,jU e]/\R=[]/\ ∀r,r=mR o a b c d e->ae (jU r,[])
def fB(a7:aq):Int:=Prod.snd (Prod.snd a7)
def fC(a7:aq):Int:=Prod.fst (Prod.snd a7)
def oO(a:aO):D:=D.int .i64 (Prod.snd a)
def oP(a:aO):D:=D.int .i64 (Prod.fst a)
def r9(b:aO):List P:=[P.d (D.agg [oP b,oO b])]
def De(g:av):D:=D.int .i64 (Prod.snd (av.s g))
def DT(g:av):D:=D.int .i64 (Prod.fst (av.s g))
def Z3F(g:av):List P:=[P.d (D.agg [DT g,De g])]
def fw(a7:aq):D:=D.int .i64 (fC a7)
def fy(a7:aq):D:=D.int .i64 (Prod.fst a7)
def fD(a7:aq):D:=D.int .i64 (fB a7)
def nc(a7:aq):P:=P.d (D.agg [fy a7,fw a7,fD a7])
def iP(a7:aq):List P:=[nc a7]
theorem R6(g:av)(k:Int)(x:aq)(ae:P×List (Nat×En)->Prop):(∃(a7:aq),iP x=iP a7/\Zq/\ ∀(b:Bool),b=rgX a7->bif !b then Z1 ae else∃(a:aO) (b:aO),P.d (D.agg [fy x,fw x])::Z3F g=P.d (D.agg [oP a,oO a])::r9 b/\Zq/\ ∀(r:Bool),r=r8 a b->bif r then ZD ae else bif Prod.fst x==Prod.fst (av.s g)&&(fC x==Prod.snd (av.s g)&&true) then ae (P.d (D.bool (decide (fB x<k))),[]) else Z1 ae)=(aK [(68,qdl),(79,pO)] [] 97 [.d (cu g),.d (cb x),iD k] []) ae:=by kernel_rfl
def Gt(dU:av):D:=D.int .i64 (Prod.snd (av.lA dU))
def Gu(dU:av):D:=D.int .i64 (Prod.fst (av.lA dU))
def rO(dU:av):P:=P.d (D.agg [DT dU,De dU,D.int .i64 (av.n dU),D.sl 1 (bB (av.deps dU)),Gu dU,Gt dU,D.sl 18 (List.map fY (av.ops dU))])
def Z3G(x:aq):Bool:=Prod.fst x==(0:Int)&&(fC x==(0:Int)&&true)&&(fB x==(0:Int)&&true)
theorem qdt(g:av)(k:Int)(x:aq)(ae:P×List (Nat×En)->Prop):(bif Z3G x then ZD ae else∃(dU:av) (gS:Int) (a7:aq),rO g::nc x::Zo k=rO dU::nc a7::Zo gS/\Zq/\ ∀(b:Bool),b=cJ (av.s dU) gS a7->ae (fX b,[]))=(aK [(97,nX)] [] 95 [.d (cu g),.d (cb x),iD k] []) ae:=by kernel_rfl
def Nn(o:bs):Int:=Prod.snd (Prod.snd (bs.elem o))
def Np(o:bs):Int:=Prod.fst (Prod.snd (bs.elem o))
def Z3M(e:Bool)(ae:P×List (Nat×En)->Prop)(o:bs):Prop:=bif e then ZD ae else ae (P.d (D.bool ((↑(List.length (List.map cb (bs.elems o))):Int)==(0:Int))),[])
def Z3P(d:Bool)(e:Bool)(ae:P×List (Nat×En)->Prop)(o:bs):Prop:=bif d then Z3M e ae o else bif Prod.fst (bs.after o)==(0:Int)&&(Prod.fst (Prod.snd (bs.after o))==(0:Int)&&true)&&(Prod.snd (Prod.snd (bs.after o))==(0:Int)&&true) then bif Prod.fst (bs.elem o)==(0:Int)&&(Np o==(0:Int)&&true)&&(Nn o==(0:Int)&&true) then bif bs.text o==[] then Z3M e ae o else Z1 ae else Z1 ae else Z1 ae
def Z3L(o:bs):Int:=(↑(List.length (List.map eD (bs.db o))):Int)
def Z3Q(c:Bool)(o:bs)(ae:P×List (Nat×En)->Prop)(d:Bool)(e:Bool):Prop:=bif !c then bif decide (Z3L o>(0:Int)) then Z1 ae else Z3P d e ae o else Z3P d e ae o
theorem XZ(o:bs)(a b c d e:Bool)(ae:P×List (Nat×En)->Prop):(bif !a then bif !(Prod.fst (bs.parent o)==(0:Int)&&(Prod.fst (Prod.snd (bs.parent o))==(0:Int)&&true)&&(Prod.snd (Prod.snd (bs.parent o))==(0:Int)&&true)) then Z1 ae else bif !bs.name o==[] then Z1 ae else bif !b then bif bs.dir o then Z1 ae else Z3Q c o ae d e else Z3Q c o ae d e else bif !b then bif bs.dir o then Z1 ae else Z3Q c o ae d e else Z3Q c o ae d e)=(aK [] [] 96 [.d (fY o),jU a,jU b,jU c,jU d,jU e] []) ae:=by kernel_rfl
abbrev qdu(g:av)(l:List aO)(i:Int):S:=⟨47,[(1,lB l),(2,.ref 0 0 0),(5,iD i)],gbR g⟩
def Ow(g:av):P:=P.d (D.sl 1 (bB (av.deps g)))
def Df(g:av):List (Nat×En):=[(0,En.mk 0 none (Obj.box (89:TypeId) [P.d (DT g),P.d (De g),P.d (D.int .i64 (av.n g)),Ow g,P.d (Gu g),P.d (Gt g),P.d (D.sl 18 (List.map fY (av.ops g)))]))]
def Lc:Nat×P:=(2,dP)
def qv(l:List aO):P:=P.d (D.sl 2 (List.map eD l))
def vT(l:List aO):Nat×P:=(1,qv l)
def Z41(l:List aO)(i:Int):List D:=[D.int .i64 (D.aj (D.ax (D.nth (List.map eD l) (Z8 i)) 0)),D.int .i64 (D.aj (D.ax (D.nth (List.map eD l) (Z8 i)) 1))]
noncomputable def Z3X(l:List aO)(i:Int):Bool:=cT PR (48:TypeId) (D.nth (List.map eD l) (Z8 i))
def Z3W(ae:PX×S->Prop)(l:List aO):Prop:=ae (PX.ret,S.mk 47 (vT l::Zc) [])
def X0(l:List aO)(i:Int):List D:=[D.int .i64 (D.aj (D.ax (D.nth (List.map eD l) (Zb i)) 0)),D.int .i64 (D.aj (D.ax (D.nth (List.map eD l) (Zb i)) 1))]
noncomputable def Jp(l:List aO)(i:Int):Bool:=cT PR (48:TypeId) (D.nth (List.map eD l) (Zb i))
def Ab(l:List aO):Nat:=List.length (List.map eD l)
def Z3S(i:Int)(l:List aO):Bool:=decide ((0:Int)<=i/\i<(↑(Ab l):Int))
theorem Gv(g:av)(l:List aO)(i:Int)(ae:PX×S->Prop):(bif decide (i<(↑(Ab l):Int)) then ob (Z3S i l) (ob (Jp l i) (∃(s:aO),[P.d (D.agg (X0 l i))]=r9 s/\Zq/\ ∀(b:Bool),b=RO s->bif !b then Z3W ae l else ob (Z3S i l) (ob (Jp l i) (∃(a:aO) (b:aO),[P.d (D.agg [DT g,De g]),P.d (D.agg (X0 l i))]=P.d (D.agg [oP a,oO a])::r9 b/\Zq/\ ∀(r:Bool),r=r8 a b->bif r then Z3W ae l else bif Zk i then ob (Z7 i) (ob (decide ((0:Int)<=i-(1:Int)/\i-(1:Int)<(↑(Ab l):Int))) (ob (Z3X l i) (ob (Z3S i l) (ob (Jp l i) (∃(a:aO) (b:aO),[P.d (D.agg (Z41 l i)),P.d (D.agg (X0 l i))]=P.d (D.agg [oP a,oO a])::r9 b/\Zq/\ ∀(r:Bool),r=r8 a b->bif !r then Z3W ae l else ob (Zd i) (ae (PX.normal,S.mk 47 (vT l::Lc::Zi i) (Df g)))))))) else ob (Zd i) (ae (PX.normal,S.mk 47 (vT l::Lc::Zi i) (Df g))))))) else ae (PX.exit 0,S.mk 47 [vT l] []))=(aC [(77,RU),(79,pO)] [] 98 2 (qdu g l i)) ae:=by kernel_rfl
abbrev qdv(g:av)(k:Int)(l:List aq)(i:Int):S:=⟨47,[(1,da l),(2,iD k),(3,.ref 0 0 0),(7,iD i)],gbR g⟩
def qw(i:Int):List (Nat×P):=[(7,P.d (Zh i))]
def dv:Nat×P:=(3,dP)
def fM(l:List aq):List D:=List.map cb l
def Z4e(l:List aq)(i:Int):List D:=[D.int .i64 (D.aj (D.ax (D.nth (fM l) (Z8 i)) 0)),D.int .i64 (D.aj (D.ax (D.nth (fM l) (Z8 i)) 1)),D.int .i64 (D.aj (D.ax (D.nth (fM l) (Z8 i)) 2))]
noncomputable def X1(l:List aq)(i:Int):Bool:=cT PR (50:TypeId) (D.nth (fM l) (Z8 i))
def Z4a:List (Nat×P):=[(6,P.d Z0)]
def iw(l:List aq):P:=P.d (D.sl 3 (fM l))
def qx(l:List aq):Nat×P:=(1,iw l)
def Hs(l:List aq)(i:Int):Int:=D.aj (D.ax (D.nth (fM l) (Zb i)) 2)
def Ht(l:List aq)(i:Int):Int:=D.aj (D.ax (D.nth (fM l) (Zb i)) 1)
def Hu(l:List aq)(i:Int):Int:=D.aj (D.ax (D.nth (fM l) (Zb i)) 0)
def X2(l:List aq)(i:Int):List D:=[D.int .i64 (Hu l i),D.int .i64 (Ht l i),D.int .i64 (Hs l i)]
noncomputable def wR(l:List aq)(i:Int):Bool:=cT PR (50:TypeId) (D.nth (fM l) (Zb i))
def oQ(l:List aq):Nat:=List.length (fM l)
def Bs(l:List aq):Int:=(↑(oQ l):Int)
def Nq(i:Int)(l:List aq):Bool:=decide ((0:Int)<=i/\i<Bs l)
theorem Bt(g:av)(k:Int)(l:List aq)(i:Int)(ae:PX×S->Prop):(bif decide (i<Bs l) then ob (Nq i l) (ob (wR l i) (∃(dU:av) (gS:Int) (x:aq),rO g::P.d (D.agg (X2 l i))::Zo k=rO dU::nc x::Zo gS/\Zq/\ ∀(b:Bool),b=cJ (av.s dU) gS x->bif !b then ae (PX.ret,S.mk 47 (qx l::Z4a) []) else bif Zk i then ob (Z7 i) (ob (decide ((0:Int)<=i-(1:Int)/\i-(1:Int)<Bs l)) (ob (X1 l i) (ob (Nq i l) (ob (wR l i) (∃(x:aq) (y:aq),[P.d (D.agg (Z4e l i)),P.d (D.agg (X2 l i))]=nc x::iP y/\Zq/\ ∀(c:Int),RT x y c->bif decide (c>=(0:Int)) then ae (PX.ret,S.mk 47 (qx l::Z4a) []) else ob (Zd i) (ae (PX.normal,S.mk 47 (qx l::Zy k::dv::qw i) (Df g)))))))) else ob (Zd i) (ae (PX.normal,S.mk 47 (qx l::Zy k::dv::qw i) (Df g))))) else ae (PX.exit 0,S.mk 47 [qx l] []))=(aC [(97,nX),(55,Dd)] [] 100 2 (qdv g k l i)) ae:=by kernel_rfl
section
variable{X:XF}
theorem yI:FD X 97 nX:=FD.mk (H:=[(68,qdl),(79,pO)]) (by kernel_rfl) (.cons qdn (.cons yH .nil)) .nil (by
 intro ps R ae hh;obtain⟨g,k,x,rfl,rfl,hp⟩:=hh
 (rw[<-R6];delta fB fC ZC ZD oO oP r9 De DT Z3F fw fy Z0 Z1 Zq fD nc iP)
 refine⟨x,rfl,rfl,λb hb=>az (λh1=>hp _ ?_) λh1=>⟨Nj x,g.s,rfl,rfl,λc hc=>az (λh2=>hp _ ?_) λh2=>az (λh3=>hp _ ?_) λh3=>hp _ ?_⟩⟩
 ·rw[cJ,<-hb,show b=false by simpa using h1];rfl
 ·rw[cJ,<-hb,show b=true by simpa using h1,<-hc,h2];rfl
 ·have e:(Nj x==g.s)=true:=by rw[<-eq2 (Nj x) g.s];exact h3
  rw[cJ,<-hb,show b=true by simpa using h1,<-hc,h2,e];simp
 have e:(Nj x==g.s)=false:=by rw[<-eq2 (Nj x) g.s];exact h3
 rw[cJ,<-hb,show b=true by simpa using h1,<-hc,h2,e];rfl)
theorem qdw:FD X 95 R5:=FD.mk (H:=[(97,nX)]) (by kernel_rfl) (.cons yI .nil) .nil (by
 intro ps R ae hh;obtain⟨g,k,x,rfl,rfl,hp⟩:=hh
 (rw[<-qdt];delta fX Zq Zm Zo fB fD fC fw fy nc Gt Gu De DT rO ZC ZD Z3G)
 refine az (λh1=>hp _ ?_) λh1=>⟨g,k,x,rfl,rfl,λb hb=>hp _ ?_⟩
 ·rw[rN,<-RW x aD,h1];rfl
 rw[rN,<-RW x aD,h1,hb];rfl)
theorem X3:FD X 96 Jo:=FD.mk (H:=[]) (by kernel_rfl) .nil .nil (by
 intro ps R ae hh;obtain⟨o,a,b,c,d,e,rfl,rfl,hp⟩:=hh
 (rw[<-XZ];delta Z0 Z1 Nn Np ZC ZD Z3M Z3P Z3L Z3Q)
 rw[show(o.parent.1==0&&(o.parent.2.1==0&&true)&&(o.parent.2.2==0&&true))=(o.parent==aD) from RW o.parent aD,show(o.after.1==0&&(o.after.2.1==0&&true)&&(o.after.2.2==0&&true))=(o.after==aD) from RW o.after aD,
  show(o.elem.1==0&&(o.elem.2.1==0&&true)&&(o.elem.2.2==0&&true))=(o.elem==aD) from RW o.elem aD]
 have e1:decide (((o.db.map eD).length:Int)>0)= !(o.db.length==0):=by
  rw[zaa];cases o.db with
  |nil=>rfl
  |cons x t=>rw[zbw (by simp)];rfl
 have e2:(((o.elems.map cb).length:Int)==0)=(o.elems.length==0):=by rw[zaa];exact lnE _ 0
 rw[e1,e2];unfold mR at hp;generalize (o.parent==aD)=P1 at*
 generalize (o.after==aD)=P2 at*
 generalize (o.elem==aD)=P3 at*
 generalize (o.db.length==0)=P4 at*
 generalize (o.elems.length==0)=P5 at*
 generalize (o.name==[])=P6 at*
 generalize (o.text==[])=P7 at*
 generalize o.dir=P8 at*
 cases a<;>cases b<;>cases c<;>cases d<;>cases e
 all_goals (simp only[zdj,Bool.not_false,zcG,zcj,Bool.true_or,zcb,zbf,zc1] at hp⊢)
 all_goals (repeat' (first | (refine az (λh=> ?_) (λh=> ?_))))
 all_goals (refine hp _ ?_;simp_all))
def Jq:S->K (PX×S):=λst ae=> ∃g l,st=qdu g l 0/\l.length<=9223372036854775807/\(rM l.length (wm g.s l)=false->ae (.ret,⟨47,[(1,lB l),(4,jU false)],[]⟩))/\(rM l.length (wm g.s l)=true->ae (.exit 0,⟨47,[(1,lB l)],[]⟩))
theorem Nr:LD X 98 2 (ah (aL 98 2) Jq):=LD.find (H:=[(77,RU),(79,pO)]) (hk:=[]) (by kernel_rfl) (by kernel_rfl) (.cons RY (.cons yH .nil)) .nil
 (A:=av×List aO) (λa k=>qdu a.1 a.2 k) (λa=>a.2) (λa j _=> !wm a.1.s a.2 j) (λa=>a.2.length<=9223372036854775807)
 (λa _=>(.ret,⟨47,[(1,lB a.2),(4,jU false)],[]⟩)) (λa=>(.exit 0,⟨47,[(1,lB a.2)],[]⟩)) (λ_ _ h=>by cases h) (λ_ h=>by cases h)
 (by
  rintro⟨g,l⟩ i ae hi hC h0 cj ht hn;dsimp only at*
  (rw[<-Gv];delta Gt Gu Ow De DT Df Zh Zi dP Lc qv vT Z6 Z5 Zd Z8 Z41 Z3X Z7 Zk oO oP Z0 Zc Z3W Zq r9 Zb X0 Jp Ab Z3S)
  have e1:D.nth (l.map eD) i.toNat=eD l[i.toNat]:=aG _ _ _ hi;have d1:=lP hi ((0,0):aO);rw[e1];simp only[zaa];refine RX cj (aP ⟨h0,cj⟩ (ao (uF _) ⟨l[i.toNat],rfl,rfl,λb hb=>az (λh1=> ?_) λh1=>aP ⟨h0,cj⟩ (ao (uF _) ⟨g.s,l[i.toNat],rfl,rfl,λc hc=>az (λh2=> ?_) λh2=>a8 (λh3=> ?_) λh3=> ?_⟩)⟩))
  ·refine ht ?_;rw[wm,d1,<-hb,show b=false by simpa using h1];rfl
  ·refine ht ?_;rw[wm,d1,<-hc,h2];simp
  ·have e2:D.nth (l.map eD) (i-1).toNat=eD (l[(i-1).toNat]'(by omega)):=aG _ _ _ (by omega);have d2:=lP (show(i-1).toNat<l.length by omega) ((0,0):aO);rw[e2];refine aP (by omega) (aP ⟨by omega,by omega⟩ (ao (uF _) (aP ⟨h0,cj⟩ (ao (uF _) ⟨l[(i-1).toNat],l[i.toNat],rfl,rfl,λc' zm=>az (λh4=>ht ?_) λh4=>aP (by omega) (hn ?_)⟩))))
   ·rw[wm,d1,show i.toNat-1=(i-1).toNat by omega,d2,<-zm,show c'=false by simpa using h4,show(i.toNat==0)=false by simp;omega];simp
   rw[wm,d1,show i.toNat-1=(i-1).toNat by omega,d2,<-hc,h2,<-zm,show c'=true by simpa using h4,<-hb,show b=true by simpa using h1];simp
  refine aP (by omega) (hn ?_);rw[wm,d1,<-hc,h2,<-hb,show b=true by simpa using h1,show(i.toNat==0)=true by simp;omega];simp)
 (by
  rintro⟨g,l⟩ i ae hC hi hp;dsimp only at*
  (rw[<-Gv];delta Gt Gu Ow De DT Df Zh Zi dP Lc qv vT Z6 Z5 Zd Z8 Z41 Z3X Z7 Zk oO oP Z0 Zc Z3W Zq r9 Zb X0 Jp Ab Z3S)
  simp only[zaa];exact a8 (λh=>by omega) λh=>hp)
 (by rintro s ae ⟨g,l,rfl,hl,h1,h2⟩;refine⟨(g,l),rfl,hl,λi hi h0 ht _=>h1 (RP (i:=i.toNat) hi (by simpa using ht)),λh=>h2 (Da λi hi=>by simpa using h i hi)⟩)
def Dg:S->K (PX×S):=λst ae=> ∃g k l,st=qdv g k l 0/\l.length<=9223372036854775807/\(rM l.length (RQ g.s k l)=false->ae (.ret,⟨47,[(1,da l),(6,jU false)],[]⟩))/\(rM l.length (RQ g.s k l)=true->ae (.exit 0,⟨47,[(1,da l)],[]⟩))
theorem Jr:LD X 100 2 (ah (aL 100 2) Dg):=LD.find (H:=[(97,nX),(55,Dd)]) (hk:=[]) (by kernel_rfl) (by kernel_rfl) (.cons yI (.cons Nl .nil)) .nil
 (A:=av×Int×List aq) (λa k=>qdv a.1 a.2.1 a.2.2 k) (λa=>a.2.2) (λa j _=> !RQ a.1.s a.2.1 a.2.2 j) (λa=>a.2.2.length<=9223372036854775807)
 (λa _=>(.ret,⟨47,[(1,da a.2.2),(6,jU false)],[]⟩)) (λa=>(.exit 0,⟨47,[(1,da a.2.2)],[]⟩)) (λ_ _ h=>by cases h) (λ_ h=>by cases h)
 (by
  rintro⟨g,k,l⟩ i ae hi hC h0 cj ht hn;dsimp only at*
  (rw[<-Bt];delta Gt Gu Ow De DT Df Zh qw dP dv Zm Zy Z6 Z5 Zd fB fD fC fw fy nc iP Z8 fM Z4e X1 Z7 Zk Z0 Z4a iw qx Zq Zo Zb Hs Ht Hu X2 rO wR oQ Bs Nq)
  have e1:D.nth (l.map cb) i.toNat=cb l[i.toNat]:=aG _ _ _ hi;have d1:=lP hi aD;rw[e1];simp only[zaa];refine RX cj (aP ⟨h0,cj⟩ (ao (mQ _) ⟨g,k,l[i.toNat],rfl,rfl,λb hb=>az (λh1=> ?_) λh1=>a8 (λh3=> ?_) λh3=> ?_⟩))
  ·refine ht ?_;rw[RQ,d1,<-hb,show b=false by simpa using h1];rfl
  ·have e2:D.nth (l.map cb) (i-1).toNat=cb (l[(i-1).toNat]'(by omega)):=aG _ _ _ (by omega);have d2:=lP (show(i-1).toNat<l.length by omega) aD;rw[e2];refine aP (by omega) (aP ⟨by omega,by omega⟩ (ao (mQ _) (aP ⟨h0,cj⟩ (ao (mQ _) ⟨l[(i-1).toNat],l[i.toNat],rfl,rfl,λc' zm=>a8 (λh4=>ht ?_) λh4=>aP (by omega) (hn ?_)⟩))))
   ·have e4:lz l[(i-1).toNat] l[i.toNat]=false:=by rw[<-zbS,<-zm.lt];omega
    rw[RQ,d1,show i.toNat-1=(i-1).toNat by omega,d2,e4,show(i.toNat==0)=false by simp;omega];simp
   have e4:lz l[(i-1).toNat] l[i.toNat]=true:=by rw[<-zm.lt];omega
   rw[RQ,d1,show i.toNat-1=(i-1).toNat by omega,d2,e4,<-hb,show b=true by simpa using h1];simp
  refine aP (by omega) (hn ?_);rw[RQ,d1,<-hb,show b=true by simpa using h1,show(i.toNat==0)=true by simp;omega];simp)
 (by
  rintro⟨g,k,l⟩ i ae hC hi hp;dsimp only at*
  (rw[<-Bt];delta Gt Gu Ow De DT Df Zh qw dP dv Zm Zy Z6 Z5 Zd fB fD fC fw fy nc iP Z8 fM Z4e X1 Z7 Zk Z0 Z4a iw qx Zq Zo Zb Hs Ht Hu X2 rO wR oQ Bs Nq)
  simp only[zaa];exact a8 (λh=>by omega) λh=>hp)
 (by rintro s ae ⟨g,k,l,rfl,hl,h1,h2⟩;refine⟨(g,k,l),rfl,hl,λi hi h0 ht _=>h1 (RP (i:=i.toNat) hi (by simpa using ht)),λh=>h2 (Da λi hi=>by simpa using h i hi)⟩)
end
def jO(ar:List aO):Nat:=List.length ar
theorem X4(g:av)(l:List aO)(ae:P×List (Nat×En)->Prop):(∃(dU:av) (ar:List aO),S.mk 47 (vT l::Lc::ZB) (Df g)=S.mk 47 (vT ar::Lc::ZB) (Df dU)/\jO ar<=Zr/\(rM (jO ar) (wm (av.s dU) ar)=false->Z1 ae)/\(rM (jO ar) (wm (av.s dU) ar)=true->ae (P.d (D.bool (decide ((↑(Ab ar):Int)<=(200:Int)))),[])))=(aK [] [(2,ah (aL 98 2) Jq)] 98 [.d (cu g),lB l] []) ae:=by kernel_rfl
def gk(ar:List aq):Nat:=List.length ar
def uG:List (Nat×P):=[(7,P.d Z3)]
theorem R7(g:av)(k:Int)(l:List aq)(ae:P×List (Nat×En)->Prop):(∃(dU:av) (gS:Int) (ar:List aq),S.mk 47 (qx l::Zy k::dv::uG) (Df g)=S.mk 47 (qx ar::Zy gS::dv::uG) (Df dU)/\gk ar<=Zr/\(rM (gk ar) (RQ (av.s dU) gS ar)=false->Z1 ae)/\(rM (gk ar) (RQ (av.s dU) gS ar)=true->bif decide (Bs ar>=(1:Int)) then ae (P.d (D.bool (decide (Bs ar<=(2000:Int)))),[]) else Z1 ae))=(aK [] [(2,ah (aL 100 2) Dg)] 100 [.d (cu g),da l,iD k] []) ae:=by kernel_rfl
def Js:bh:=λps R ae=> ∃g l,ps=[.d (cu g),lB l]/\R=[]/\l.length<=9223372036854775807/\ ∀b,b=tf g.s l->ae (jU b,[])
def Dh:bh:=λps R ae=> ∃g k l,ps=[.d (cu g),da l,iD k]/\R=[]/\l.length<=9223372036854775807/\ ∀b,b=Db g.s k l->ae (jU b,[])
def Z4A(o:bs)(g:av)(k:Int):Bool:=Prod.fst (bs.elem o)==Prod.fst (av.s g)&&(Np o==Prod.snd (av.s g)&&true)&&(Nn o==k&&true)
def R8(aZ:bs):D:=D.int .i64 (Prod.snd (Prod.snd (bs.after aZ)))
def R9(aZ:bs):D:=D.int .i64 (Prod.fst (Prod.snd (bs.after aZ)))
def Sb(aZ:bs):D:=D.int .i64 (Prod.fst (bs.after aZ))
def Z4B(g:av)(o:bs)(k:Int):List P:=rO g::P.d (D.agg [Sb o,R9 o,R8 o])::Zo k
def Sc(aZ:bs):D:=D.int .i64 (Prod.snd (Prod.snd (bs.parent aZ)))
def Sd(aZ:bs):D:=D.int .i64 (Prod.fst (Prod.snd (bs.parent aZ)))
def Se(aZ:bs):D:=D.int .i64 (Prod.fst (bs.parent aZ))
def Ox(aZ:bs):D:=D.int .i64 (Prod.snd (Prod.snd (bs.node aZ)))
def Oy(aZ:bs):D:=D.int .i64 (Prod.fst (Prod.snd (bs.node aZ)))
def Oz(aZ:bs):D:=D.int .i64 (Prod.fst (bs.node aZ))
def Ld(aZ:bs):D:=D.agg [D.int .i64 (bs.kind aZ),Oz aZ,Oy aZ,Ox aZ,Se aZ,Sd aZ,Sc aZ,D.str (bs.name aZ),D.bool (bs.dir aZ),D.sl 2 (List.map eD (bs.db aZ)),Sb aZ,R9 aZ,R8 aZ,D.int .i64 (Prod.fst (bs.elem aZ)),D.int .i64 (Np aZ),D.int .i64 (Nn aZ),D.str (bs.text aZ),D.sl 3 (List.map cb (bs.elems aZ))]
def Z4w(s0:List P)(aZ:bs)(a:Bool)(b:Bool)(c:Bool)(d:Bool)(e:Bool):Prop:=s0=[P.d (Ld aZ),fX a,fX b,fX c,fX d,fX e]
def Z4y(ae:P×List (Nat×En)->Prop):List P->Prop:=λ(s0:List P)=> ∃(aZ:bs) (a:Bool) (b:Bool) (c:Bool) (d:Bool) (e:Bool),Z4w s0 aZ a b c d e/\Zq/\ ∀(r:Bool),r=mR aZ a b c d e->bif r then Z4 ae else r7 ae
def Z4z(g:av)(o:bs)(k:Int):List P:=rO g::P.d (D.agg [Oz o,Oy o,Ox o])::Zo k
def Z4x(g:av)(o:bs)(k:Int):List P:=rO g::P.d (D.agg [Se o,Sd o,Sc o])::Zo k
theorem qgq(g:av)(k:Int)(o:bs)(ae:P×List (Nat×En)->Prop):(bif bs.kind o==(0:Int) then bif Prod.fst (bs.node o)==Prod.fst (av.s g)&&(Prod.fst (Prod.snd (bs.node o))==Prod.snd (av.s g)&&true)&&(Prod.snd (Prod.snd (bs.node o))==k&&true) then∃(dU:av) (gS:Int) (x:aq),Z4x g o k=rO dU::nc x::Zo gS/\Zq/\ ∀(b:Bool),b=rN (av.s dU) gS x->bif b then∃(s:List UInt8),[P.d (D.str (bs.name o))]=ZW s/\Zq/\ ∀(b:Bool),b=bR s->bif b then∃(aZ:bs) (a:Bool) (b:Bool) (c:Bool) (d:Bool) (e:Bool),P.d (Ld o)::ZC::ZC::P.d Z0::P.d Z0::IP=[P.d (Ld aZ),fX a,fX b,fX c,fX d,fX e]/\Zq/\ ∀(r:Bool),r=mR aZ a b c d e->bif r then ae (ZF,[]) else r7 ae else r7 ae else r7 ae else r7 ae else bif bs.kind o==(1:Int) then∃(dU:av) (gS:Int) (x:aq),Z4z g o k=rO dU::nc x::Zo gS/\Zq/\ ∀(b:Bool),b=cJ (av.s dU) gS x->bif b then∃(Le:av) (Sf:Int) (x:aq),Z4x g o k=rO Le::nc x::Zo Sf/\Zq/\ ∀(b:Bool),b=rN (av.s Le) Sf x->bif b then∃(s:List UInt8),[P.d (D.str (bs.name o))]=ZW s/\Zq/\ ∀(b:Bool),b=bR s->bif b then Z4y ae (P.d (Ld o)::ZC::P.d Z0::P.d Z0::P.d Z0::IP) else r7 ae else r7 ae else r7 ae else bif bs.kind o==(2:Int) then∃(dU:av) (gS:Int) (x:aq),Z4z g o k=rO dU::nc x::Zo gS/\Zq/\ ∀(b:Bool),b=cJ (av.s dU) gS x->bif b then∃(Le:av) (l:List aO),[rO g,P.d (D.sl 2 (List.map eD (bs.db o)))]=[rO Le,qv l]/\Zq/\jO l<=Zr/\ ∀(b:Bool),b=tf (av.s Le) l->bif b then Z4y ae (P.d (Ld o)::P.d Z0::P.d Z0::ZC::P.d Z0::IP) else r7 ae else r7 ae else bif bs.kind o==(3:Int) then∃(s:List UInt8),[P.d (D.str (bs.text o))]=ZW s/\Zq/\kc s/\(XP s-> ∃(dU:av) (gS:Int) (x:aq),Z4z g o k=rO dU::nc x::Zo gS/\Zq/\ ∀(b:Bool),b=cJ (av.s dU) gS x->bif b then∃(Le:av) (Sf:Int) (x:aq),Z4B g o k=rO Le::nc x::Zo Sf/\Zq/\ ∀(b:Bool),b=rN (av.s Le) Sf x->bif b then bif Z4A o g k then r7 ae else r7 ae else r7 ae else r7 ae)/\(XO s-> ∀(n:Int),n=Gn s-> ∃(dU:av) (gS:Int) (x:aq),Z4z g o k=rO dU::nc x::Zo gS/\Zq/\ ∀(b:Bool),b=cJ (av.s dU) gS x->bif b then∃(Le:av) (Sf:Int) (x:aq),Z4B g o k=rO Le::nc x::Zo Sf/\Zq/\ ∀(b:Bool),b=rN (av.s Le) Sf x->bif b then bif Z4A o g k then bif decide (n>=(1:Int)) then bif decide (n<=(2000:Int)) then∃(aZ:bs) (a:Bool) (b:Bool) (c:Bool) (d:Bool) (e:Bool),P.d (Ld o)::P.d Z0::P.d Z0::P.d Z0::ZC::IP=[P.d (Ld aZ),fX a,fX b,fX c,fX d,fX e]/\Zq/\ ∀(r:Bool),r=mR aZ a b c d e->bif r then ae (P.d (Zm n),[]) else r7 ae else r7 ae else r7 ae else r7 ae else r7 ae else r7 ae) else bif bs.kind o==(4:Int) then∃(dU:av) (gS:Int) (x:aq),Z4z g o k=rO dU::nc x::Zo gS/\Zq/\ ∀(b:Bool),b=cJ (av.s dU) gS x->bif b then∃(Le:av) (Sf:Int) (l:List aq),rO g::P.d (D.sl 3 (List.map cb (bs.elems o)))::Zo k=rO Le::iw l::Zo Sf/\Zq/\gk l<=Zr/\ ∀(b:Bool),b=Db (av.s Le) Sf l->bif b then Z4y ae (P.d (Ld o)::P.d Z0::P.d Z0::P.d Z0::P.d Z0::z8) else r7 ae else r7 ae else r7 ae)=(aK [(96,Jo),(97,nX),(95,R5),(42,Jn),(98,Js),(100,Dh),(99,RR)] [] 80 [.d (cu g),.d (fY o),iD k] []) ae:=by kernel_rfl
def qdx:bh:=λps R ae=> ∃g k o,ps=[.d (cu g),.d (fY o),iD k]/\R=[]/\SmO o/\(mS g.s k o=none->ae (iD (-1),[]))/\(∀n,mS g.s k o=some n->ae (iD n,[]))
abbrev qdy(g:av)(k i:Int):S:=⟨90,[(1,.ref 0 0 0),(3,iD k),(4,iD i)],gbR g⟩
def sa(i:Int):List (Nat×P):=[(4,P.d (Zh i))]
def Z4E(ae:PX×S->Prop):Prop:=ae (PX.ret,S.mk 90 [(2,VD)] [])
def Ac(g:av)(i:Int):D:=D.nth (List.map fY (av.ops g)) (Zb i)
def Z4C(g:av):Int:=(↑(List.length (List.map fY (av.ops g))):Int)
theorem Sg(g:av)(k i:Int)(ae:PX×S->Prop):(bif decide (i<Z4C g) then ob (decide ((0:Int)<=i/\i<Z4C g)) (ob (cT PR (91:TypeId) (Ac g i)) (∃(dU:av) (gS:Int) (o:bs),rO g::P.d (D.agg [D.int .i64 (D.aj (D.ax (Ac g i) 0)),D.int .i64 (D.aj (D.ax (Ac g i) 1)),D.int .i64 (D.aj (D.ax (Ac g i) 2)),D.int .i64 (D.aj (D.ax (Ac g i) 3)),D.int .i64 (D.aj (D.ax (Ac g i) 4)),D.int .i64 (D.aj (D.ax (Ac g i) 5)),D.int .i64 (D.aj (D.ax (Ac g i) 6)),D.str (D.cm (D.ax (Ac g i) 7)),D.bool (D.eY (D.ax (Ac g i) 8)),D.sl 2 (D.fU (D.ax (Ac g i) 9)),D.int .i64 (D.aj (D.ax (Ac g i) 10)),D.int .i64 (D.aj (D.ax (Ac g i) 11)),D.int .i64 (D.aj (D.ax (Ac g i) 12)),D.int .i64 (D.aj (D.ax (Ac g i) 13)),D.int .i64 (D.aj (D.ax (Ac g i) 14)),D.int .i64 (D.aj (D.ax (Ac g i) 15)),D.str (D.cm (D.ax (Ac g i) 16)),D.sl 3 (D.fU (D.ax (Ac g i) 17))])::Zo k=rO dU::P.d (Ld o)::Zo gS/\Zq/\SmO o/\(mS (av.s dU) gS o=none->Z4E ae)/\ ∀(n:Int),mS (av.s dU) gS o=some n->bif VC n then Z4E ae else ob (decide (Z5<=k+n/\k+n<=Z6)) (ob (Zd i) (ae (PX.normal,S.mk 90 ((1,dP)::(3,P.d (D.int .i64 (k+n)))::sa i) (Df g)))))) else ae (PX.exit 0,S.mk 90 [] []))=(aC [(80,qdx)] [] 49 11 (qdy g k i)) ae:=by kernel_rfl
def qdz:S->K (PX×S):=λst ae=> ∃g,st=qdy g 0 0/\(SmG g/\g.ops.length<=200)/\(nW g.s 0 g.ops=false->ae (.ret,⟨90,[(2,iD 80)],[]⟩))/\(nW g.s 0 g.ops=true->ae (.exit 0,⟨90,[],[]⟩))
def Hv:List (Nat×P):=[(4,P.d Z3)]
def Z4I(dU:av):S:=S.mk 90 ((1,dP)::(3,P.d Z3)::Hv) (Df dU)
def X5(v:List Int):Prop:=List.length v<=1000000
theorem qgr(g:av)(ae:P×List (Nat×En)->Prop):(∃(s:aO),Z3F g=r9 s/\Zq/\ ∀(b:Bool),b=RO s->bif !b then K1 ae else bif decide (av.n g<(1:Int)) then K1 ae else bif decide (av.n g>(1099511627776:Int)) then K1 ae else∃(v:List Int),[Ow g]=[Ze v]/\Zq/\X5 v/\ ∀(b:Bool),b=dN v->bif !b then K1 ae else∃(v:List Int) (r:Int),[Ow g,P.d (De g)]=Ze v::Zo r/\Zq/\X5 v/\ ∀(n:Int),n=e7 v r->ob (decide (Z5<=av.n g-(1:Int)/\av.n g-(1:Int)<=Z6)) (bif n !=av.n g-(1:Int) then K1 ae else bif !(Prod.fst (av.lA g)==(0:Int)&&(Prod.snd (av.lA g)==(0:Int)&&true)) then∃(s:aO),[P.d (D.agg [Gu g,Gt g])]=r9 s/\Zq/\ ∀(b:Bool),b=RO s->bif !b then K1 ae else∃(a:aO) (b:aO),P.d (D.agg [Gu g,Gt g])::Z3F g=P.d (D.agg [oP a,oO a])::r9 b/\Zq/\ ∀(r:Bool),r=r8 a b->bif !r then K1 ae else bif decide (Z4C g>(0:Int)) then K1 ae else Z4 ae else bif decide (Z4C g<(1:Int)) then K1 ae else bif decide (Z4C g>(200:Int)) then K1 ae else∃(dU:av),Z4I g=Z4I dU/\(SmG dU/\List.length (av.ops dU)<=200)/\(nW (av.s dU) (0:Int) (av.ops dU)=false->K1 ae)/\(nW (av.s dU) (0:Int) (av.ops dU)=true->Z4 ae)))=(aK [(77,RU),(78,RZ),(37,qdo),(79,pO)] [(11,ah (aL 49 11) qdz)] 49 [.d (cu g)] []) ae:=by kernel_rfl
section
variable{X:XF}
theorem X6:FD X 98 Js:=FD.mk (H:=[]) (hk:=[(2,ah (aL 98 2) Jq)]) (by kernel_rfl) .nil (.cons Nr .nil) (by
 intro ps R ae hh;obtain⟨g,l,rfl,rfl,hl,hp⟩:=hh
 (rw[<-X4];delta Ab Z0 Z1 Zr jO Gt Gu Ow De DT Df Z3 ZB dP Lc qv vT)
 refine⟨g,l,rfl,hl,λh=>hp _ ?_,λh=>hp _ ?_⟩
 ·rw[tf,h];rfl
 rw[tf,h,zaa,zbf,zcm];omega)
theorem Sh:FD X 100 Dh:=FD.mk (H:=[]) (hk:=[(2,ah (aL 100 2) Dg)]) (by kernel_rfl) .nil (.cons Jr .nil) (by
 intro ps R ae hh;obtain⟨g,k,l,rfl,rfl,hl,hp⟩:=hh
 (rw[<-R7];delta fM oQ Bs Z0 Z1 Zr gk Gt Gu Ow De DT Df Z3 uG dP dv Zm Zy iw qx)
 simp only[zaa];refine⟨g,k,l,rfl,hl,λh=>hp _ ?_,λh=>a8 (λh2=>hp _ ?_) λh2=>hp _ ?_⟩
 ·rw[Db,h];rfl
 ·rw[Db,h,zbf,zcm];omega
 rw[Db,h,zbf];exact(za5 (by omega)).symm)
theorem Si{s:aO}{k n:Int}{o:bs}(h:mS s k o=some n):jr o=true:=by
 unfold mS at h;split at h
 ·cases h
 rename_i hb;simpa using hb
theorem qgs:FD X 80 qdx:=FD.mk (H:=[(96,Jo),(97,nX),(95,R5),(42,Jn),(98,Js),(100,Dh),(99,RR)]) (by kernel_rfl)
  (.cons X3 (.cons yI (.cons qdw (.cons R4 (.cons X6 (.cons Sh (.cons XX .nil))))))) .nil (by
 intro ps R ae hh;obtain⟨g,k,o,rfl,rfl,hs,h1,h2⟩:=hh
 (rw[<-qgq];delta ZC z8 gk fM iw Zm XO Nn Np Z4A Zo R8 R9 Sb Gt Gu De DT rO Z4B XP ZX kc Zr jO qv QY r7 Z3 Z4 Zq fX Sc Sd Se Ox Oy Oz Ld Z4w Z4y Z4z ZF Z0 IP ZV ZW fB fD fC fw fy nc Z4x)
 have ub:jr o=false->mS g.s k o=none:=λh=>by
  cases hh:mS g.s k o with
  |none=>rfl
  |some n=>rw[Si hh] at h;cases h
 have u:jr o=true->mS g.s k o=_:=λh=>(mS.eq_1 g.s k o).trans (zap (by rw[h];simp));have kb:jr o=mR o (o.kind==0 ||o.kind==1) (o.kind==0) (o.kind==2) (o.kind==3) (o.kind==4):=rfl;refine mI (λe=> ?_) λe0=>mI (λe=> ?_) λe1=>mI (λe=> ?_) λe2=>mI (λe=> ?_) λe3=>mI (λe=> ?_) λe4=>h1 ?_
 ·rw[e] at kb;simp only[zaq e] at u;have no: ¬(o.node=(g.s.1,g.s.2,k)/\rN g.s k o.parent=true/\bR o.name=true)->mS g.s k o=none:=λh=>by
   cases hb:jr o with
   |false=>exact ub hb
   |true=>rw[u hb,zap h]
  rw[RW o.node (g.s.1,g.s.2,k)];refine az (λc1=>⟨g,k,o.parent,rfl,rfl,λb2 dM=>az (λc2=>⟨o.name,rfl,rfl,λb3 VE=>az (λc3=>⟨o,_,_,_,_,_,rfl,rfl,λr hr=>az (λc4=>h2 _ ?_) λc4=>h1 (ub ?_)⟩) λc3=>h1 (no ?_)⟩) λc2=>h1 (no ?_)⟩) λc1=>h1 (no ?_)
  ·rw[u (by rw[kb,<-c4,hr];rfl),zaq ⟨by simpa using c1,by rw[<-dM,c2],by rw[<-VE,c3]⟩]
  ·rw[kb,<-c4,hr];rfl
  ·exact λh=>by rw[h.2.2] at VE;rw[VE] at c3;cases c3
  ·exact λh=>by rw[h.2.1] at dM;rw[dM] at c2;cases c2
  exact λh=>by rw[h.1] at c1;simp at c1
 ·rw[e] at kb;simp only[zap e0,zaq e] at u;have no: ¬(cJ g.s k o.node=true/\rN g.s k o.parent=true/\bR o.name=true)->mS g.s k o=none:=λh=>by
   cases hb:jr o with
   |false=>exact ub hb
   |true=>rw[u hb,zap h]
  refine⟨g,k,o.node,rfl,rfl,λb1 ji=>az (λc1=>⟨g,k,o.parent,rfl,rfl,λb2 dM=>az (λc2=>⟨o.name,rfl,rfl,λb3 VE=>az (λc3=>⟨o,_,_,_,_,_,rfl,rfl,λr hr=>az (λc4=>h2 _ ?_) λc4=>h1 (ub ?_)⟩) λc3=>h1 (no ?_)⟩) λc2=>h1 (no ?_)⟩) λc1=>h1 (no ?_)⟩
  ·rw[u (by rw[kb,<-c4,hr];rfl),zaq ⟨by rw[<-ji,c1],by rw[<-dM,c2],by rw[<-VE,c3]⟩]
  ·rw[kb,<-c4,hr];rfl
  ·exact λh=>by rw[h.2.2] at VE;rw[VE] at c3;cases c3
  ·exact λh=>by rw[h.2.1] at dM;rw[dM] at c2;cases c2
  exact λh=>by rw[h.1] at ji;rw[ji] at c1;cases c1
 ·rw[e] at kb;simp only[zap e0,zap e1,zaq e] at u;have no: ¬(cJ g.s k o.node=true/\tf g.s o.db=true)->mS g.s k o=none:=λh=>by
   cases hb:jr o with
   |false=>exact ub hb
   |true=>rw[u hb,zap h]
  refine⟨g,k,o.node,rfl,rfl,λb1 ji=>az (λc1=>⟨g,o.db,rfl,rfl,hs.2.1,λb2 dM=>az (λc2=>⟨o,_,_,_,_,_,rfl,rfl,λr hr=>az (λc4=>h2 _ ?_) λc4=>h1 (ub ?_)⟩) λc2=>h1 (no ?_)⟩) λc1=>h1 (no ?_)⟩
  ·rw[u (by rw[kb,<-c4,hr];rfl),zaq ⟨by rw[<-ji,c1],by rw[<-dM,c2]⟩]
  ·rw[kb,<-c4,hr];rfl
  ·exact λh=>by rw[h.2] at dM;rw[dM] at c2;cases c2
  exact λh=>by rw[h.1] at ji;rw[ji] at c1;cases c1
 ·rw[e] at kb;simp only[zap e0,zap e1,zap e2,zaq e] at u;have no: ¬(cJ g.s k o.node=true/\rN g.s k o.after=true/\o.elem=(g.s.1,g.s.2,k)/\ti o.text=true)->mS g.s k o=none:=λh=>by
   cases hb:jr o with
   |false=>exact ub hb
   |true=>rw[u hb,zap h]
  refine⟨o.text,rfl,rfl,hs.1,λhv=> ?_,λhv n hn=> ?_⟩
  ·have hr:ti o.text=false:=by rw[ti,hv];rfl
   have bk:mS g.s k o=none:=no (λh=>by rw[h.2.2.2] at hr;cases hr);exact⟨g,k,o.node,rfl,rfl,λb2 dM=>az (λc2=>⟨g,k,o.after,rfl,rfl,λb3 VE=>az (λc3=>az (λc4=>h1 bk) λc4=>h1 bk) λc3=>h1 bk⟩) λc2=>h1 bk⟩
  have hr:ti o.text=decide (1<=n/\n<=2000):=by rw[ti,hv,zbf,hn]
  rw[RW o.elem (g.s.1,g.s.2,k)];refine⟨g,k,o.node,rfl,rfl,λb1 ji=>az (λc1=>⟨g,k,o.after,rfl,rfl,λb2 dM=>az (λc2=>az (λc3=>a8 (λc5=>a8 (λc6=>⟨o,_,_,_,_,_,rfl,rfl,λr hr=>az (λc4=>h2 _ ?_) λc4=>h1 (ub ?_)⟩) λc6=>h1 (no ?_)) λc5=>h1 (no ?_)) λc3=>h1 (no ?_)) λc2=>h1 (no ?_)⟩) λc1=>h1 (no ?_)⟩
  next ve=>rw[u (by rw[kb,<-c4,hr];rfl),zaq ⟨by rw[<-ji,c1],by rw[<-dM,c2],by simpa using c3,by rw[ve];exact zbw ⟨c5,c6⟩⟩,hn]
  ·rw[kb,<-c4,hr];rfl
  ·exact λh=>by rw[hr] at h;exact c6 (zb1 h.2.2.2).2
  ·exact λh=>by rw[hr] at h;exact c5 (zb1 h.2.2.2).1
  ·exact λh=>by rw[h.2.2.1] at c3;simp at c3
  ·exact λh=>by rw[h.2.1] at dM;rw[dM] at c2;cases c2
  exact λh=>by rw[h.1] at ji;rw[ji] at c1;cases c1
 ·rw[e] at kb;simp only[zap e0,zap e1,zap e2,zap e3,zaq e] at u;have no: ¬(cJ g.s k o.node=true/\Db g.s k o.elems=true)->mS g.s k o=none:=λh=>by
   cases hb:jr o with
   |false=>exact ub hb
   |true=>rw[u hb,zap h]
  refine⟨g,k,o.node,rfl,rfl,λb1 ji=>az (λc1=>⟨g,k,o.elems,rfl,rfl,hs.2.2,λb2 dM=>az (λc2=>⟨o,_,_,_,_,_,rfl,rfl,λr hr=>az (λc4=>h2 _ ?_) λc4=>h1 (ub ?_)⟩) λc2=>h1 (no ?_)⟩) λc1=>h1 (no ?_)⟩
  ·rw[u (by rw[kb,<-c4,hr];rfl),zaq ⟨by rw[<-ji,c1],by rw[<-dM,c2]⟩]
  ·rw[kb,<-c4,hr];rfl
  ·exact λh=>by rw[h.2] at dM;rw[dM] at c2;cases c2
  exact λh=>by rw[h.1] at ji;rw[ji] at c1;cases c1
 cases hb:jr o with
 |false=>exact ub hb
 |true=>rw[u hb,zap e0,zap e1,zap e2,zap e3,zap e4])
theorem X7:LD X 49 11 (ah (aL 49 11) qdz):=LD.idx (H:=[(80,qdx)]) (hk:=[]) (by kernel_rfl) (by kernel_rfl) (.cons qgs .nil) .nil
 (A:=av) (B:=Int) (λg k i=>qdy g k i) (λg=>g.ops.length) (λg i k=>(SmG g/\g.ops.length<=200)/\(0<=k/\k<=2000000*i)/\nW g.s 0 g.ops=nW g.s k (g.ops.drop i))
 (λg x=>(nW g.s 0 g.ops=false/\x=(.ret,⟨90,[(2,iD 80)],[]⟩))\/(nW g.s 0 g.ops=true/\x=(.exit 0,⟨90,[],[]⟩)))
 (by
  rintro g k i ae h0 cj bK ⟨hs,hk,he⟩ hn ho
  (rw[<-Sg];delta Gt Gu Ow De DT Df Zh sa dP Z6 Z5 Zd VC VD Z4E Zq Nn Np R8 R9 Sb Sc Sd Se Ox Oy Oz Ld Zm Zo rO Zb Ac Z4C)
  have e1:D.nth (g.ops.map fY) i.toNat=fY g.ops[i.toNat]:=aG _ _ _ bK;rw[e1];simp only[zaa];have hd:g.ops.drop i.toNat=g.ops[i.toNat]::g.ops.drop (i.toNat+1):=za9 bK;have hso:=hs.1.1 _ (zar bK);have CL:=hs.2;rw[hd] at he;generalize g.ops[i.toNat]=o at he hso;refine RX cj (aP ⟨h0,cj⟩ (ao (Nk _) ⟨g,k,o,rfl,rfl,hso,λh=> ?_,λn h=> ?_⟩))
  ·refine ho _ (λh=>by cases h) (.inl ⟨?_,rfl⟩);rw[he,nW,h]
  have:=qds h hso.1;refine a8 (λh=>by omega) λ_=>aP (by omega) (aP (by omega) (hn (k+n) ⟨hs,by omega,?_⟩));rw[he,nW,h])
 (by
  rintro g k i ae hi ⟨hs,hk,he⟩ ho
  (rw[<-Sg];delta Gt Gu Ow De DT Df Zh sa dP Z6 Z5 Zd VC VD Z4E Zq Nn Np R8 R9 Sb Sc Sd Se Ox Oy Oz Ld Zm Zo rO Zb Ac Z4C)
  simp only[zaa];refine a8 (λh=>by omega) λh=>ho _ (λh=>by cases h) (.inr ⟨?_,rfl⟩);rw[he,List.drop_length];rfl)
 (by
  rintro s ae ⟨g,rfl,hs,h1,h2⟩;refine⟨g,0,rfl,⟨hs,by omega,rfl⟩,?_⟩;rintro x (⟨h,rfl⟩| ⟨h,rfl⟩)
  ·exact h1 h
  exact h2 h)
theorem qdA:FD X 49 qdp:=FD.mk (H:=[(77,RU),(78,RZ),(37,qdo),(79,pO)]) (hk:=[(11,ah (aL 49 11) qdz)]) (by kernel_rfl) (.cons RY (.cons qdq (.cons qdr (.cons yH .nil)))) (.cons X7 .nil) (by
 intro ps R ae hh;obtain⟨g,rfl,rfl,hs,hp⟩:=hh
 (rw[<-qgr];delta Gt Gu Ow De DT Df Z3 Hv dP Z4I Z4 Z4C oO oP Z6 Z5 Zm Zo X5 Ze VD K1 Zq r9 Z3F)
 have bk:dC g=false->ae (.d (.int .i64 80),[]):=λh=>hp _ (by rw[h];rfl);have nx:dC g=true->ae (.d (.int .i64 0),[]):=λh=>hp _ (by rw[h];rfl);have u:=dC.eq_1 g;have no1:hdG g=false->dC g=false:=λh=>by rw[u,h];rfl
 have v:=hdG.eq_1 g;rw[eq2 g.lA (0,0)];simp only[zaa];refine⟨g.s,rfl,rfl,λb hb=>az (λc1=>bk (no1 ?_)) λc1=>a8 (λc2=>bk (no1 ?_)) λc2=>a8 (λc3=>bk (no1 ?_)) λc3=>⟨g.deps,rfl,rfl,hs.2.2,λb2 dM=>az (λc4=>bk (no1 ?_)) λc4=>⟨g.deps,g.s.2,rfl,rfl,hs.2.2,λn hn=>aP (by omega) (lK (λc5=>bk (no1 ?_)) λc5=> ?_)⟩⟩⟩
 ·rw[v,<-hb,show b=false by simpa using c1];rfl
 ·rw[v,za5 (by omega)];simp
 ·rw[v,za5 (by omega)];simp
 ·rw[v,<-dM,show b2=false by simpa using c4];simp
 ·rw[v,<-hn,show(n==g.n-1)=false by simpa using c5];simp
 rw[v,<-hb,show b=true by simpa using c1,<-dM,show b2=true by simpa using c4,<-hn,show(n==g.n-1)=true by simpa using c5,zbw (by omega),zbf,zbf,zbf,zbf] at u;refine az (λc2=>⟨g.lA,rfl,rfl,λb2 dM=>az (λc3=>bk ?_) λc3=>⟨g.lA,g.s,rfl,rfl,λc hc=>az (λc4=>bk ?_) λc4=>a8 (λc5=>bk ?_) λc5=>nx ?_⟩⟩) λc2=>a8 (λc3=>bk ?_) λc3=>a8 (λc4=>bk ?_) λc4=>⟨g,rfl,⟨hs,by omega⟩,λh=>bk ?_,λh=>nx ?_⟩
 ·rw[zaq (by simpa using c2),<-dM,show b2=false by simpa using c3] at u;rw[u];rfl
 ·rw[zaq (by simpa using c2),<-hc,show c=false by simpa using c4] at u;rw[u];simp
 ·rw[zaq (by simpa using c2)] at u;rw[u,show(g.ops.length==0)=false by rw[zbQ];omega];simp
 ·rw[zaq (by simpa using c2),<-dM,show b2=true by simpa using c3,<-hc,show c=true by simpa using c4,show(g.ops.length==0)=true by rw[zbp];omega] at u;rw[u];rfl
 ·rw[zap (by simpa using c2),za5 (by omega)] at u;rw[u];rfl
 ·rw[zap (by simpa using c2),za5 (by omega)] at u;rw[u];rfl
 ·rw[zap (by simpa using c2),h] at u;rw[u];simp
 rw[zap (by simpa using c2),h,zbw (by omega)] at u;rw[u];rfl)
end
abbrev Hd:=aO×aO
theorem tu:K7 (λa b:aO=>r8 a b) where
 irr x:=by simp[uA]
 tr x y z:=by simp only[uA,zal];omega
 q9 x y:=by
  simp only[uA,zaM];intro h1 h2;obtain⟨a,b⟩:=x;obtain⟨c,d⟩:=y;simp only at h1 h2;have:a=c:=by omega
  have:b=d:=by omega
  subst_vars
  rfl
def Ns(o:List Hd)(h:Hd):List Hd:=if(o.any λx=>x.1==h.1)=true then o else o++[h]
def Ad(l:List Hd):List Hd:=l.foldl Ns []
theorem Nt{o:List Hd}(h:Hd)(ho:(o.map (·.1)).Nodup):((Ns o h).map (·.1)).Nodup:=by
 unfold Ns;split
 ·exact ho
 rename_i hn;rw[zaG,zbb];refine⟨ho,by simp,λa ha b hb e=> ?_⟩;simp at hb;subst hb;subst e;obtain⟨x,hx,he⟩:=zaX.1 ha;exact hn (zbG.2 ⟨x,hx,by simpa using he⟩)
theorem Bu: ∀(l o:List Hd),(o.map (·.1)).Nodup->((l.foldl Ns o).map (·.1)).Nodup
 | [],_,h=>h
 |x::r,_,h=>Bu r _ (Nt x h)
theorem Nu(l:List Hd):((Ad l).map (·.1)).Nodup:=Bu l [] (by simp)
theorem X8(o:List Hd)(h:Hd):(Ns o h).length<=o.length+1:=by
 unfold Ns;split
 ·omega
 simp
theorem Lf: ∀(l o:List Hd),(l.foldl Ns o).length<=o.length+l.length
 | [],_=>by simp
 |x::r,o=>by have:=Lf r (Ns o x);have:=X8 o x;simp only[za4,zam];omega
theorem wS(l:List Hd):(Ad l).length<=l.length:=by simpa [Ad] using Lf l []
def ltH(a b:Hd):Bool:=r8 a.1 b.1
def Nv(l:List Hd):List Hd:=cc ltH (Ad l)
theorem yJ{α β:Type}{f:α->β}: ∀{l:List α},(l.map f).Nodup-> ∀x∈l,∀y∈l,f x=f y->x=y
 | [],_,x,hx,_,_,_=>by cases hx
 |a::r,h,x,hx,y,hy,e=>by
  rw[zaO,za8] at h;rcases zas.1 hx with Cd |Cd
  ·rcases zas.1 hy with zI |zI
   ·rw[Cd,zI]
   exact absurd (zaX.2 ⟨y,zI,by rw[<-e,Cd]⟩) h.1
  rcases zas.1 hy with zI |zI
  ·exact absurd (zaX.2 ⟨x,Cd,by rw[e,zI]⟩) h.1
  exact yJ h.2 x Cd y zI e
theorem X9{l a:List Hd}(hp:a.Perm (Ad l))(ha:a.Pairwise λx y=>ltH y x=false):a=Nv l:=
 Jj tu (λa:Hd=>a.1) (λx hx y hy e=>yJ (Nu l) x (hp.mem_iff.1 hx) y (hp.mem_iff.1 hy) e) (hp.trans (cI _).symm) ha (uC tu (λa:Hd=>a.1) _)
theorem Sj(l:List Hd):(Nv l).length<=l.length:=by unfold Nv;rw[(cI _).length_eq];exact wS l
def onS(on:List Hd)(h:Hd):List Hd:=if(on.any λx=>x.2==h.1)=true then on else on++[h]
def OA(l on:List Hd):List Hd:=l.foldl onS on
def onX(l:List Hd):List aO:=((OA (Nv l).reverse []).map (·.1)).reverse
theorem Ya(o:List Hd)(h:Hd):(onS o h).length<=o.length+1:=by
 unfold onS;split
 ·omega
 simp
theorem wT: ∀(l o:List Hd),(OA l o).length<=o.length+l.length
 | [],_=>by simp[OA]
 |x::r,o=>by
  have:=wT r (onS o x);have:=Ya o x;simp only[OA,za4,zam] at*
  omega
theorem Yb(l:List Hd):(onX l).length<=l.length:=by unfold onX;have h1:=wT (Nv l).reverse [];have h2:=Sj l;simp at h1⊢;omega
def kg(o:List av)(g:av):List av:=if dC g=true/\(o.any λx=>x.s==g.s)=false then o++[g] else o
def au(l:List av):List av:=l.foldl kg []
def Di(g:av):Hd:=(g.s,g.lA)
theorem Sk(o:List av)(g:av):(kg o g).length<=o.length+1:=by
 unfold kg;split
 ·simp
 omega
theorem Gw: ∀(l o:List av),(l.foldl kg o).length<=o.length+l.length
 | [],_=>by simp
 |x::r,o=>by have:=Gw r (kg o x);have:=Sk o x;simp only[za4,zam];omega
theorem rP(l:List av):(au l).length<=l.length:=by simpa [au] using Gw l []
theorem Gx(l:List av)(g:av):au (l++[g])=kg (au l) g:=by simp[au]
theorem Sl{P:av->Prop}(hP: ∀g,dC g=true->P g): ∀(l o:List av),(∀g∈o,P g)-> ∀g∈l.foldl kg o,P g
 | [],_,h=>h
 |x::r,o,h=>by
  refine Sl hP r _ ?_;intro g hg;unfold kg at hg;split at hg
  next hx=>
   rcases zaB.1 hg with hg |hg
   ·exact h g hg
   simp at hg;subst hg;exact hP _ hx.1
  exact h g hg
theorem gE{l:List av}: ∀g∈au l,dC g=true:=Sl (P:=λg=>dC g=true) (λ_ h=>h) l [] (λ_ h=>by cases h)
theorem yK: ∀(l o:List av),(o.map (·.s)).Nodup->((l.foldl kg o).map (·.s)).Nodup
 | [],_,h=>h
 |x::r,o,h=>by
  refine yK r _ ?_;unfold kg;split
  next hx=>rw[zaG,zbb];refine⟨h,by simp,λa ha b hb e=> ?_⟩;simp at hb;subst hb;subst e;obtain⟨y,hy,he⟩:=zaX.1 ha;have:=hx.2;rw[zcw] at this;exact this y hy (by simpa using he)
  exact h
theorem kh(l:List av):((au l).map (·.s)).Nodup:=yK l [] (by simp)
theorem Gy: ∀(l o:List av),(∀g∈l,dC g=true)->((o++l).map (·.s)).Nodup->l.foldl kg o=o++l
 | [],o,_,_=>by simp
 |x::r,o,hc,h=>by
  have e:kg o x=o++[x]:=by unfold kg;rw[zaq];refine⟨hc x (.head _),?_⟩;rw[zcw];intro y hy he;rw[zaG,zbb] at h;exact h.2.2 y.s (zbt hy) x.s (by simp) (by simpa using he)
  rw[za4,e,Gy r (o++[x]) (λg hg=>hc g (.tail _ hg)) (by simpa using h)];simp
theorem Jt{l:List av}(hc: ∀g∈l,dC g=true)(h:(l.map (·.s)).Nodup):au l=l:=by unfold au;rw[Gy l [] hc (by simpa using h)];rfl
def Yc(r:Int)(m:Int)(g:av):Int:=if g.s.2=r then max m g.n else m
def mxN(l:List av)(r:Int):Int:=l.foldl (Yc r) 0
theorem Sm{r B:Int}: ∀(l:List av) (m:Int),m<=B->(∀g∈l,g.n<=B)->l.foldl (Yc r) m<=B
 | [],_,h,_=>h
 |g::t,m,h,hl=>by
  refine Sm t _ ?_ λx hx=>hl x (.tail _ hx);have:=hl g (.head _);unfold Yc;split
  ·omega
  exact h
theorem Sn{r:Int}: ∀(l:List av) (m:Int),m<=l.foldl (Yc r) m/\ ∀g∈l,g.s.2=r->g.n<=l.foldl (Yc r) m
 | [],m=>⟨zbI _,λ_ h=>by cases h⟩
 |g::t,m=>by
  obtain⟨h1,h2⟩:=Sn (r:=r) t (Yc r m g);have h3:m<=Yc r m g/\(g.s.2=r->g.n<=Yc r m g):=by
   unfold Yc;split
   ·exact⟨by omega,λ_=>by omega⟩
   rename_i h;exact⟨zbI _,λe=>absurd e h⟩
  refine⟨Int.le_trans h3.1 h1,λx hx hr=> ?_⟩;rcases zas.1 hx with rfl |hx
  ·exact Int.le_trans (h3.2 hr) h1
  exact h2 x hx hr
theorem Ju(l:List av)(r:Int):0<=mxN l r:=(Sn (r:=r) l 0).1
def sb(l:List av):Int:=l.foldl (λt g=>max t g.s.1) 0
theorem Sp(l:List av)(g:av):sb (l++[g])=max (sb l) g.s.1:=by simp[sb]
theorem Sq{B:Int}(hB:0<=B): ∀(l:List av),(∀g∈l,g.s.1<=B)->sb l<=B:=by
 intro l h;have key: ∀(l:List av) (m:Int),m<=B->(∀g∈l,g.s.1<=B)->l.foldl (λt g=>max t g.s.1) m<=B:=by
  intro l
  induction l with
  |nil=>intro m h _;exact h
  |cons g t ih=>intro m h hl;refine ih _ ?_ λx hx=>hl x (.tail _ hx);have:=hl g (.head _);show max m g.s.1<=B;omega
 exact key l 0 hB h
theorem uH(l:List av):0<=sb l/\ ∀g∈l,g.s.1<=sb l:=by
 have key: ∀(l:List av) (m:Int),m<=l.foldl (λt g=>max t g.s.1) m/\ ∀g∈l,g.s.1<=l.foldl (λt g=>max t g.s.1) m:=by
  intro l
  induction l with
  |nil=>intro m;exact⟨zbI _,λ_ h=>by cases h⟩
  |cons g t ih=>
   intro m;obtain⟨h1,h2⟩:=ih (max m g.s.1);refine⟨by simp only[za4];omega,λx hx=> ?_⟩;simp only[za4];rcases zas.1 hx with rfl |hx
   ·omega
   exact h2 x hx
 exact key l 0
def qba(l:List av)(r:Int):Int:=if ¬(1<=r/\r<=16) then 1 else if max (sb l+1) (mxN l r+1)>1099511627776 then 2 else 0
def dE(l:List av):List aO:=onX ((au l).map Di)
noncomputable def wU(H HN:List (FuncId×bh))(hk:List (Nat×(S->K (PX×S))))(f id:Nat)(s:S):K (PX×S):=
 w8 (c8 PR (runK PR MU qS H 60 60) HN (aL f) hk (qS f) (bE PR f id)) (aL f id) s
noncomputable def qdB(H HN:List (FuncId×bh))(hk:List (Nat×(S->K (PX×S))))(f:Nat)(ps:List P)(R:List (Nat×En)):K (P×List (Nat×En)):=
 Bf PR (runK PR MU qS H 60 60) HN MU hk qS f ps R
def ND(w0:World)(f:Nat)(h:bh):Prop:=Vx PR w0 f h
def LN(w0:World)(f id:Nat)(g:S->K (PX×S)):Prop:= ∀(val:Nat->Value) (lo:Nat) (mk:Bool) s ae,g s ae->TW PR ⟨val,w0,lo,mk⟩ (.loop (bE PR f id)) s ae
def LNT(w0:World)(f id:Nat)(g:S->K (PX×S)):Prop:= ∀(val:Nat->Value) (lo:Nat) s ae,g s ae->TW PR ⟨val,w0,lo,true⟩ (.loop (bE PR f id)) s ae
def FN(w0:World)(f id:Nat)(g:S->K (PX×S)):Prop:= ∀(val:Nat->Value) (lo:Nat) s ae,g s ae->TW PR ⟨val,w0,lo,true⟩ (mH PR f id).code s ae
theorem LN.T{w0:World}{f id:Nat}{g:S->K (PX×S)}(h:LN w0 f id g):LNT w0 f id g:=λval lo s ae hp=>h val lo true s ae hp
inductive OB(w0:World):List (FuncId×bh)->Prop
 |nil:OB w0 []
 |cons {f:Nat} {h:bh} {r:List (FuncId×bh)} (hf:ND w0 f h) (hr:OB w0 r):OB w0 ((f,h)::r)
theorem OB.get{w0:World}{HN:List (FuncId×bh)}(h:OB w0 HN): ∀f g,lk HN f=some g->Vx PR w0 f g:=by
 induction h with
 |nil=>intro f g h;cases h
 | @cons f' h' r hf hr ih=>
  intro f g h;unfold lk at h;split at h
  next he=>cases h;rw[<-zah he];exact hf
  exact ih f g h
inductive LNs(w0:World)(f:Nat):List (Nat×(S->K (PX×S)))->Prop
 |nil:LNs w0 f []
 |cons {id:Nat} {g:S->K (PX×S)} {r:List (Nat×(S->K (PX×S)))} (h:LN w0 f id g) (hr:LNs w0 f r):LNs w0 f ((id,g)::r)
theorem LNs.get{w0:World}{f:Nat}{hk:List (Nat×(S->K (PX×S)))}(h:LNs w0 f hk): ∀id g,lk hk id=some g->LN w0 f id g:=by
 induction h with
 |nil=>intro f g h;cases h
 | @cons f' h' r hf hr ih=>
  intro f g h;unfold lk at h;split at h
  next he=>cases h;rw[<-zah he];exact hf
  exact ih f g h
inductive VF(w0:World)(f:Nat):List (Nat×(S->K (PX×S)))->Prop
 |nil:VF w0 f []
 |loop {id:Nat} {g:S->K (PX×S)} {r:List (Nat×(S->K (PX×S)))} (hid:id<500000) (h:LNT w0 f id g) (hr:VF w0 f r):VF w0 f ((id,g)::r)
 |range {id:Nat} {g:S->K (PX×S)} {r:List (Nat×(S->K (PX×S)))} (h:FN w0 f id g) (hr:VF w0 f r):VF w0 f ((500000+id,g)::r)
theorem VF.loops{w0:World}{f:Nat}{hk:List (Nat×(S->K (PX×S)))}(h:VF w0 f hk): ∀id g,id<500000->lk hk id=some g->LNT w0 f id g:=by
 induction h with
 |nil=>intro id g _ h;cases h
 | @loop pd g' r qid h hr ih=>
  intro id g hid hg;unfold lk at hg;split at hg
  next he=>cases hg;rw[<-zah he];exact h
  exact ih id g hid hg
 | @range pd g' r h hr ih=>
  intro id g hid hg;unfold lk at hg;split at hg
  next he=>have:=zah he;omega
  exact ih id g hid hg
theorem VF.ranges{w0:World}{f:Nat}{hk:List (Nat×(S->K (PX×S)))}(h:VF w0 f hk): ∀id g,lk hk (500000+id)=some g->FN w0 f id g:=by
 induction h with
 |nil=>intro id g h;cases h
 | @loop pd g' r qid h hr ih=>
  intro id g hg;unfold lk at hg;split at hg
  next he=>have:=zah he;omega
  exact ih id g hg
 | @range pd g' r h hr ih=>
  intro id g hg;unfold lk at hg;split at hg
  next he=>
   cases hg;have:=zah he;have e:pd=id:=by omega
   rw[<-e];exact h
  exact ih id g hg
theorem Bv{X:XF}{H:List (FuncId×bh)}(hH:HD X H):zV (runK PR MU qS H 60 60) (fG PR (MZ X)):=by have:=wK (lf:=60) (kx M0) hH 60;rw[CQ PR aL xsT X.cf (λ_ _ _=>none) qS H 60 60] at this;exact this
theorem ND.mk{X:XF}{w0:World}(hX:eG PR w0 X.cf){H HN:List (FuncId×bh)}{hk:List (Nat×(S->K (PX×S)))}{f:Nat}{h:bh}(hdr:PR.follows .mixedOrders=true)(hu:uniq PR f=true)(huR:Bc PR f=true)(hH:HD X H)(qb:OB w0 HN)(hl:VF w0 f hk)
  (hb: ∀ps R ae,h ps R ae->qdB H HN hk f ps R ae):ND w0 f h:=
 Vx.mk (kp:=MZ X) qb.get (Bv hH) hX hdr M0 hu huR hl.loops hl.ranges (λps R ae hp=>hb ps R ae hp)
theorem LN.par{X:XF}{w0:World}(hX:eG PR w0 X.cf){H HN:List (FuncId×bh)}{hk:List (Nat×(S->K (PX×S)))}{f id:Nat}{g:S->K (PX×S)}(hdr:PR.follows .mixedOrders=true)(hu:uniq PR f=true)(hc:b8 (qS f) (bE PR f id)=true)(hnr:(bZ (bE PR f id)).isEmpty=true)(hH:HD X H)(qb:OB w0 HN)(hl:LNs w0 f hk)
  {A B:Type} (hd:A->B->S) (Inv:A->B->Prop) (mu:A->B->Nat) (Out:A->PX×S->Prop)
  (hr: ∀a b,Inv a b->wU H HN hk f id (hd a b) (roundPost (mu a b) (λm s=> ∃b',s=hd a b'/\Inv a b'/\m=mu a b') (Out a)))
  (hg: ∀s ae,g s ae-> ∃a b,s=hd a b/\Inv a b/\ ∀x,Out a x->ae x):LN w0 f id (ah (aL f id) g):=by
 intro val lo mk s ae hp;unfold ah at hp;cases hh:cH (aL f id) s with
 |none=>simp only[hh] at hp
 |some s0=>
  simp only[hh] at hp;obtain⟨a,b,rfl,h1,h2⟩:=hg s0 ae hp;refine TW.mono (TW.loop (keep:=aL f id) (I:=λm s=> ∃b',s=hd a b'/\Inv a b'/\m=mu a b') (O:=Out a) (λn s hs=> ?_) hh ⟨b,rfl,h1,rfl⟩) h2;obtain⟨b',rfl,h3,rfl⟩:=hs;have:=hr a b' h3;unfold wU at this;refine TW.mono (eN (kp:=MZ X) (T:=⟨val,w0,lo,mk⟩) qb.get (Bv hH) hX hdr (kp1:=aL f) (bE PR f id) hc (λd hd h hh s ae hp=>by have:=hl.get _ _ hh val lo mk s ae hp;rwa [A6 hu hd] at this) (λx hx=>by rw[zb5.1 hnr] at hx;cases hx) _ _ this) ?_;rintro⟨e,s1⟩ hx;cases e with
  |normal=>obtain⟨s2,h4,m,h5,h6⟩:=KW.dR (p:=λs2=>cH (aL f id) s1=some s2) (λ_ h=>h) _ hx;exact⟨s2,h4,m,h5,h6⟩
  |exit i=>obtain⟨s2,h4,h5⟩:=KW.dR (p:=λs2=>eE (aL f id) s1=some s2) (λ_ h=>h) _ hx;exact⟨s2,h4,h5⟩
  |ret=>obtain⟨s2,h4,h5⟩:=KW.dR (p:=λs2=>eE (aL f id) s1=some s2) (λ_ h=>h) _ hx;exact⟨s2,h4,h5⟩
abbrev Ae(z:Bool)(l:List av):Obj:= .arr 89 z (l.map cu)
def SmL(l:List av):Prop:=l.length<=1000000/\ ∀g∈l,SmG g
def Sr:bh:=λps R ae=> ∃l,ps=[dD l]/\R=[]/\SmL l/\ ∀m,m=au l->ae (.sl 0 0 m.length,[(0,⟨0,none,Ae false m⟩)])
def yL(m:List av)(s:aO):Int:=Jm (λg=>g.s==s) m
def Jv:bh:=λps R ae=> ∃m s,ps=[.sl 0 0 m.length,.d (eD s)]/\R=[(0,⟨0,some 0,Ae false m⟩)]/\m.length<=1000000/\ ∀i,i=yL m s->ae (iD i,[(0,⟨0,some 0,Ae false m⟩)])
abbrev fdH(m:List av)(s:aO)(i:Int):S:=⟨20,[(0,.sl 0 0 m.length),(3,.ref 1 0 0),(5,iD i)],[(0,⟨0,some 0,Ae false m⟩),(1,⟨0,none,.box 48 [iD s.1,iD s.2]⟩)]⟩
def Jw(s:aO):En:=En.mk 0 none (Obj.box (48:TypeId) [P.d (oP s),P.d (oO s)])
def Z4S(m:List av):Nat×En:=(0,En.mk 0 (some 0) (Obj.arr (89:TypeId) false (List.map cu m)))
def tN:P:=P.ref 1 0 0
def tO:Nat×P:=(3,tN)
def Ss(m:List av):List (Nat×En):=[Z4S m]
def Jx(i:Int):List (Nat×P):=[ml i]
def vU(m:List av):P:=P.sl 0 0 (List.length m)
def tQ(m:List av):Nat×P:=(0,vU m)
def nY(m:List av)(i:Int):D:=D.nth (List.map cu m) (Zb i)
noncomputable def jP(m:List av)(i:Int):Bool:=cT PR (89:TypeId) (nY m i)
def kz(m:List av):Nat:=List.length (List.map cu m)
def Nw(i:Int)(m:List av):Bool:=decide (Zb i<kz m)
def tR(m:List av):Int:=(↑(List.length m):Int)
def Nx(i:Int)(m:List av):Bool:=decide ((0:Int)<=i/\i<tR m)
theorem qbb(m:List av)(s:aO)(i:Int)(ae:PX×S->Prop):(bif decide (i<tR m) then ob (Nx i m) (ob (Nw i m) (ob (jP m i) (bif D.aj (D.ax (nY m i) 0)==Prod.fst s&&(D.aj (D.ax (nY m i) 1)==Prod.snd s&&true) then ae (PX.ret,S.mk 20 (tQ m::Jx i) (Ss m)) else ob (Zd i) (ae (PX.normal,S.mk 20 (tQ m::tO::Zi i) [Z4S m,(1,Jw s)]))))) else ae (PX.exit 0,S.mk 20 [tQ m] (Ss m)))=(aC [] [] 50 2 (fdH m s i)) ae:=by kernel_rfl
def gFd:S->K (PX×S):=λst ae=> ∃m s,st=fdH m s 0/\m.length<=1000000/\(∀i,i=yL m s->0<=i->ae (.ret,⟨20,[(0,.sl 0 0 m.length),(4,iD i)],[(0,⟨0,some 0,Ae false m⟩)]⟩))/\(yL m s= -1->ae (.exit 0,⟨20,[(0,.sl 0 0 m.length)],[(0,⟨0,some 0,Ae false m⟩)]⟩))
def oR(dV:List av):Prop:=List.length dV<=1000000
def Z4X(dV:List av)(bF:aO):S:=S.mk 20 (tQ dV::tO::ZB) [Z4S dV,(1,Jw bF)]
theorem qie(m:List av)(s:aO)(ae:P×List (Nat×En)->Prop):(∃(dV:List av) (bF:aO),Z4X m s=Z4X dV bF/\oR dV/\(∀(i:Int),i=yL dV bF->(0:Int)<=i->ae (P.d (Zm i),Ss dV))/\(yL dV bF=(-1:Int)->ae (QY,Ss dV)))=(aK [] [(2,ah (aL 50 2) gFd)] 50 [.sl 0 0 m.length,.d (eD s)] [(0,⟨0,some 0,Ae false m⟩)]) ae:=by kernel_rfl
abbrev Yd(l out:List av)(i:Int):S:=⟨35,[(0,dD l),(3,.sl 0 0 out.length),(4,iD i)],[(0,⟨0,none,Ae false out⟩)]⟩
def Ny(m:List av):List (Nat×En):=[(0,En.mk 0 none (Obj.arr (89:TypeId) false (List.map cu m)))]
def fa(l:List av):P:=P.d (D.sl 7 (List.map cu l))
def dB(l:List av):Nat×P:=(0,fa l)
def Bw(l:List av)(i:Int):D:=D.int .i64 (D.aj (D.ax (nY l i) 1))
def Dj(l:List av)(i:Int):D:=D.int .i64 (D.aj (D.ax (nY l i) 0))
def Ye(l:List av)(i:Int):List P:=[P.d (D.agg [Dj l i,Bw l i])]
def Sv(l:List av)(i:Int):D:=D.agg [Dj l i,Bw l i,D.int .i64 (D.aj (D.ax (nY l i) 2)),D.sl 1 (D.fU (D.ax (nY l i) 3)),D.int .i64 (D.aj (D.ax (nY l i) 4)),D.int .i64 (D.aj (D.ax (nY l i) 5)),D.sl 18 (D.fU (D.ax (nY l i) 6))]
def oB(i:Int)(l:List av):Bool:=decide ((0:Int)<=i/\i<(↑(kz l):Int))
def yM(i:Int)(l:List av):Bool:=decide (i<(↑(kz l):Int))
theorem qbc(l out:List av)(i:Int)(ae:PX×S->Prop):(bif yM i l then ob (oB i l) (ob (jP l i) (∃(g:av),[P.d (Sv l i)]=[rO g]/\Zq/\SmG g/\ ∀(e:Int),(e=if dC g=true then(0:Int) else(80:Int))->bif e==(0:Int) then ob (oB i l) (ob (jP l i) (∃(m:List av) (s:aO),vU out::Ye l i=vU m::r9 s/\Ss out=Ss m/\oR m/\ ∀(aX:Int),aX=yL m s->bif VC aX then ob (oB i l) (ob (jP l i) (ob (Nat.ble (List.length out) (kz m)&&aJ (List.length out+List.length [Sv l i]) 88) (ob (Zd i) (ae (PX.normal,S.mk 35 (dB l::(3,P.sl 0 0 (List.length out+List.length [Sv l i]))::sa i) [(0,En.mk 0 none (Obj.arr (89:TypeId) false (List.take (List.length out) (List.map cu m)++[Sv l i])))]))))) else ob (Zd i) (ae (PX.normal,S.mk 35 (dB l::(3,vU out)::sa i) (Ny m))))) else ob (Zd i) (ae (PX.normal,S.mk 35 (dB l::(3,vU out)::sa i) (Ny out))))) else ae (PX.exit 0,S.mk 35 [(3,vU out)] (Ny out)))=(aC [(49,qdp),(50,Jv)] [] 24 3 (Yd l out i)) ae:=by kernel_rfl
def qdC:S->K (PX×S):=λst ae=> ∃l,st=Yd l [] 0/\SmL l/\ ∀m,m=au l->ae (.exit 0,⟨35,[(3,.sl 0 0 m.length)],[(0,⟨0,none,Ae false m⟩)]⟩)
def Z59:En:=En.mk 0 none (Obj.arr (89:TypeId) false [])
def Z5a:List (Nat×En):=[(0,Z59)]
def Sw:List (Nat×P):=(3,ZE)::Hv
theorem qgt(l:List av)(ae:P×List (Nat×En)->Prop):(∃(ar:List av),S.mk 35 (dB l::Sw) Z5a=S.mk 35 (dB ar::Sw) Z5a/\SmL ar/\ ∀(m:List av),m=au ar->ae (vU m,Ny m))=(aK [] [(3,ah (aL 24 3) qdC)] 24 [dD l] []) ae:=by kernel_rfl
theorem ak{p:Prop}{i:Decidable p}{A:Prop}(h1:p)(h2:A):cond (@decide p i) A False:=by rw[zbw h1];exact h2
theorem gT{p:Prop}{i:Decidable p}{A B:Prop}(h1:p->A)(h2: ¬p->B):cond (@decide p i) A B:=by
 by_cases h:p
 ·rw[zbw h];exact h1 h
 rw[za5 h];exact h2 h
theorem bV{p:Prop}{i:Decidable p}{A B:Prop}(h1:p)(h2:A):cond (@decide p i) A B:=by rw[zbw h1];exact h2
theorem oC{p:Prop}{i:Decidable p}{A B:Prop}(h1: ¬p)(h2:B):cond (@decide p i) A B:=by rw[za5 h1];exact h2
theorem Jy{a b:Int}{A B:Prop}(h1:a=b->A)(h2:a≠b->B):cond (a==b) A B:=by
 by_cases h:a=b
 ·rw[show(a==b)=true by simpa using h];exact h1 h
 rw[show(a==b)=false by simpa using h];exact h2 h
theorem Yf{o:List av}{g:av}(h:dC g=false):kg o g=o:=by unfold kg;rw[zap];rw[h];simp
theorem Sx{o:List av}{g:av}(h:(o.any λx=>x.s==g.s)=true):kg o g=o:=by unfold kg;rw[zap];rw[h];simp
theorem Sy{o:List av}{g:av}(h:dC g=true)(h2:(o.any λx=>x.s==g.s)=false):kg o g=o++[g]:=by unfold kg;rw[zaq ⟨h,h2⟩]
theorem Gz{l:List av}{i:Nat}(h:i<l.length):au (l.take (i+1))=kg (au (l.take i)) l[i]:=by rw[zaf h,Gx]
theorem dh{m n:Nat}(h:m<=1000000)(hn:n<=1000):aJ (m+1) n=true:=bL (zaE (Nat.mul_le_mul (by omega:m+1<=1000001) hn) (by omega)) (by omega)
theorem b7{α:Type}(f:α->D)(l:List α)(x:α):List.take l.length (l.map f)++[f x]=(l++[x]).map f:=by rw[zan (by simp),zaG];rfl
def GA(U:List aO)(o:List av):Prop:= ∀x,x∈U↔(o.any λy=>y.s==x)=true
theorem GA.nil:GA [] []:=λx=>by simp
theorem GA.had{U:List aO}{o:List av}{x:aO}(h:GA U o)(hx:x∈U):GA (x::U) o:=λy=>by
 rw[zas,h y];constructor
 ·rintro(rfl |h2)
  ·exact(h _).1 hx
  exact h2
 exact .inr
theorem GA.new{U:List aO}{o:List av}{g:av}(h:GA U o):GA (g.s::U) (o++[g]):=λy=>by
 rw[zas,h y,zcc,za1];simp only[zcX,zc6,zcY,zbp];constructor
 ·rintro(rfl |h2)
  ·exact .inr rfl
  exact .inl h2
 rintro(h2 |rfl)
 ·exact .inr h2
 exact .inl rfl
section
variable{X:XF}
theorem qdD:LD X 50 2 (ah (aL 50 2) gFd):=LD.find (H:=[]) (hk:=[]) (by kernel_rfl) (by kernel_rfl) .nil .nil
 (A:=List av×aO) (λa k=>fdH a.1 a.2 k) (λa=>a.1) (λa _ g=>g.s==a.2) (λa=>a.1.length<=1000000)
 (λa i=>(.ret,⟨20,[(0,.sl 0 0 a.1.length),(4,iD i)],[(0,⟨0,some 0,Ae false a.1⟩)]⟩)) (λa=>(.exit 0,⟨20,[(0,.sl 0 0 a.1.length)],[(0,⟨0,some 0,Ae false a.1⟩)]⟩)) (λ_ _ h=>by cases h) (λ_ h=>by cases h)
 (by
  rintro⟨m,s⟩ i ae hi hC h0 cj ht hn
  try dsimp only at*
  (rw[<-qbb];delta oO oP Jw Z4S Zh Zi tN tO Z6 Z5 Zd Ss Zm ml Jx vU tQ Zb nY jP kz Nw tR Nx)
  have e1:D.nth (m.map cu) i.toNat=cu m[i.toNat]:=aG _ _ _ hi;rw[e1];refine bV cj (ak ⟨h0,cj⟩ (ak (by simpa using hi) (ao (mT _) ?_)));rw[show(D.aj (D.ax (cu m[i.toNat]) 0)==s.1&&(D.aj (D.ax (cu m[i.toNat]) 1)==s.2&&true))=(m[i.toNat].s==s) from eq2 m[i.toNat].s s];exact az (λh=>ht h) λh=>ak (by omega) (hn h))
 (by
  rintro⟨m,s⟩ i ae hC hi hp
  try dsimp only at*
  (rw[<-qbb];delta oO oP Jw Z4S Zh Zi tN tO Z6 Z5 Zd Ss Zm ml Jx vU tQ Zb nY jP kz Nw tR Nx)
  exact gT (λh=>by omega) λh=>hp)
 (by
  rintro st ae ⟨m,s,rfl,hl,h1,h2⟩;refine⟨(m,s),rfl,hl,λi hi h0 ht hb=>h1 i ?_ h0,λh=>h2 ?_⟩
  ·rw[yL,RS hi ht hb];omega
  exact XY h)
theorem Yg:FD X 50 Jv:=FD.mk (H:=[]) (hk:=[(2,ah (aL 50 2) gFd)]) (by kernel_rfl) .nil (.cons qdD .nil) (by
 intro ps R ae hh;obtain⟨m,s,rfl,rfl,hm,hp⟩:=hh
 (rw[<-qie];delta QY Z4S Ss Zm oR oO oP Jw Z3 ZB tN tO vU tQ Z4X)
 exact⟨m,s,rfl,hm,λi hi _=>hp i hi,λh=>hp _ h.symm⟩)
theorem Yh:LD X 24 3 (ah (aL 24 3) qdC):=LD.idx (H:=[(49,qdp),(50,Jv)]) (hk:=[]) (by kernel_rfl) (by kernel_rfl) (.cons qdA (.cons Yg .nil)) .nil
 (A:=List av) (B:=List av) (λl o i=>Yd l o i) (λl=>l.length) (λl i o=>SmL l/\o=au (l.take i))
 (λl x=>x=(.exit 0,⟨35,[(3,.sl 0 0 (au l).length)],[(0,⟨0,none,Ae false (au l)⟩)]⟩))
 (by
  rintro l o i ae h0 cj bK ⟨hs,rfl⟩ hn ho
  try dsimp only at*
  (rw[<-qbc];delta Ny Zh sa fa dB Z6 Z5 Zd kz VC oR Z4S Ss oO oP r9 Zb nY Bw Dj Ye vU Zq Gt Gu De DT rO Sv jP oB yM)
  have e1:D.nth (l.map cu) i.toNat=cu l[i.toNat]:=aG _ _ _ bK;rw[e1];simp only[zaa,zam,zay,zaI];have hsg:=hs.2 _ (zar bK);have OC:=Gz bK;have nb:=rP (l.take i.toNat);rw[zat] at nb;generalize l[i.toNat]=g at OC hsg;have sC:=hs.1;have t2:D.agg [D.int .i64 (D.aj (D.ax (cu g) 0)),D.int .i64 (D.aj (D.ax (cu g) 1)),D.int .i64 (D.aj (D.ax (cu g) 2)),D.sl 1 (D.fU (D.ax (cu g) 3)),D.int .i64 (D.aj (D.ax (cu g) 4)),D.int .i64 (D.aj (D.ax (cu g) 5)),D.sl 18 (D.fU (D.ax (cu g) 6))]=cu g:=rfl;refine bV cj (ak ⟨h0,cj⟩ (ao (mT _) ⟨g,rfl,rfl,hsg,λe he=>Jy (λh1=>ak ⟨h0,cj⟩ (ao (mT _) ⟨au (l.take i.toNat),g.s,rfl,rfl,by omega,λk hk=>gT (λh2=>ak ⟨h0,cj⟩ (ao (mT _) (ao ?_ (ak (by omega) ?_)))) λh2=>ak (by omega) (hn _ ⟨hs,?_⟩)⟩)) λh1=>ak (by omega) (hn _ ⟨hs,?_⟩)⟩))
  ·rw[zad];exact⟨by simp,dh (by omega) (by omega)⟩
  ·have hg:dC g=true:=by
    cases hg:dC g with
    |true=>rfl
    |false=>rw[hg,zap (by simp)] at he;omega
   have z6:((au (l.take i.toNat)).any λx=>x.s==g.s)=false:=(Gs _ _).1 (by rw[hk] at h2;exact h2);have:=hn (au (l.take i.toNat)++[g]) ⟨hs,by rw[OC,Sy hg z6]⟩;rw[t2,b7];simp only[Yd,zaj,zam,zay,zaI] at this;exact this
  ·rw[OC,Sx];rw[<-zcx];intro h;exact h2 (by rw[hk];exact(Gs _ _).2 h)
  rw[OC,Yf];cases hg:dC g with
  |false=>rfl
  |true=>rw[hg,zaq rfl] at he;exact absurd he h1)
 (by
  rintro l o i ae hi ⟨hs,rfl⟩ ho
  try dsimp only at*
  (rw[<-qbc];delta Ny Zh sa fa dB Z6 Z5 Zd kz VC oR Z4S Ss oO oP r9 Zb nY Bw Dj Ye vU Zq Gt Gu De DT rO Sv jP oB yM)
  simp only[zaa];refine gT (λh=>by omega) λh=>ho _ (λh=>by cases h) ?_;rw[zag])
 (by rintro s ae ⟨l,rfl,hs,hp⟩;refine⟨l,[],rfl,⟨hs,rfl⟩,?_⟩;rintro x rfl;exact hp _ rfl)
theorem GB:FD X 24 Sr:=FD.mk (H:=[]) (hk:=[(3,ah (aL 24 3) qdC)]) (by kernel_rfl) .nil (.cons Yh .nil) (by
 intro ps R ae hh;obtain⟨l,rfl,rfl,hs,hp⟩:=hh
 (rw[<-qgt];delta Ny vU Z59 Z5a Z3 Hv ZE Sw fa dB)
 exact⟨l,rfl,hs,λm hm=>hp m hm⟩)
end
abbrev Lg:=S×(PX×S)->K (PX×S×(PX×S))
noncomputable def Lh(H HN:List (FuncId×bh))(f id:Nat):S->(PX×S->Prop)->Prop:=c8 PR (runK PR MU qS H 60 60) HN (aL f) [] (qS f) (mH PR f id).asg
noncomputable def Dk(H HN:List (FuncId×bh))(f id:Nat):S->(PX×S->Prop)->Prop:=c8 PR (runK PR MU qS H 60 60) HN (aL f) [] (qS f) (mH PR f id).body
noncomputable def Yi(H HN:List (FuncId×bh))(hk:FuncId->Nat->List (Nat×Lg))(f id base:Nat)(keep:Option (List Nat×List Nat))(s:S):K (PX×S):=
 IB PR (runK PR MU qS H 60 60) (mH PR f id).ps.toList base keep (Lh H HN f id) (Dk H HN f id) hk qS (mH PR f id).g s
noncomputable def Li(H HN:List (FuncId×bh))(f id base:Nat)(keep:Option (List Nat×List Nat))(yt fi Dl:Nat)(y:S×(PX×S)):K (PX×S×(PX×S)):=
 WQ (ey PR (runK PR MU qS H 60 60) yt (j7 (mH PR f id).ps.toList base keep (Lh H HN f id) (Dk H HN f id)) [] (qS fi) (bE PR fi Dl)) (aL fi Dl) y
def LY(w0:World)(f id yt fi Dl:Nat)(h:Lg):Prop:= ∀(B:nK PR) (Ti:Tg),Setup B Ti yt w0 (mH PR f id).ps (mH PR f id).asg (mH PR f id).body-> ∀y ae,h y ae->qc B Ti (.loop (bE PR fi Dl)) y.2 y.1 ae
noncomputable def uI(f id:Nat):Bool:=(aM (mH PR f id).asg).isEmpty&&(aM (mH PR f id).body).isEmpty&&(bZ (mH PR f id).asg).isEmpty&&(bZ (mH PR f id).body).isEmpty&&b8 (qS f) (mH PR f id).asg&&b8 (qS f) (mH PR f id).body
theorem GC{X:XF}{w0:World}(hX:eG PR w0 X.cf){H HN:List (FuncId×bh)}(hdr:PR.follows .mixedOrders=true)(hH:HD X H)(qb:OB w0 HN){f id:Nat}(wb:uI f id=true)(val:Nat->Value)(lo:Nat)(s:S)(ae:PX×S->Prop)(hp:Lh H HN f id s ae):
  TW PR ⟨val,w0,lo,false⟩ (mH PR f id).asg s ae:=by
 simp only[uI,zad] at wb;exact eN (kp:=MZ X) (T:=⟨val,w0,lo,false⟩) qb.get (Bv hH) hX hdr (kp1:=aL f) _ wb.1.2 (λd hd=>by rw[zb5.1 wb.1.1.1.1.1] at hd;cases hd) (λx hx=>by rw[zb5.1 wb.1.1.1.2] at hx;cases hx) _ _ hp
theorem Bx{X:XF}{w0:World}(hX:eG PR w0 X.cf){H HN:List (FuncId×bh)}(hdr:PR.follows .mixedOrders=true)(hH:HD X H)(qb:OB w0 HN){f id:Nat}(wb:uI f id=true)(val:Nat->Value)(lo:Nat)(s:S)(ae:PX×S->Prop)(hp:Dk H HN f id s ae):
  TW PR ⟨val,w0,lo,false⟩ (mH PR f id).body s ae:=by
 simp only[uI,zad] at wb;exact eN (kp:=MZ X) (T:=⟨val,w0,lo,false⟩) qb.get (Bv hH) hX hdr (kp1:=aL f) _ wb.2 (λd hd=>by rw[zb5.1 wb.1.1.1.1.2] at hd;cases hd) (λx hx=>by rw[zb5.1 wb.1.1.2] at hx;cases hx) _ _ hp
theorem FN.mk{X:XF}{w0:World}(hX:eG PR w0 X.cf){H HN:List (FuncId×bh)}(hdr:PR.follows .mixedOrders=true)(hH:HD X H)(qb:OB w0 HN){f id base:Nat}{keep:Option (List Nat×List Nat)}(wb:uI f id=true){hk:FuncId->Nat->List (Nat×Lg)}
  (hu: ∀fi yt h Dl,lk (hk fi yt) Dl=some h->uniq PR fi=true/\LY w0 f id yt fi Dl h) {g:S->K (PX×S)} (hg: ∀s ae,g s ae->Yi H HN hk f id base keep s ae):FN w0 f id g:=by
 intro val lo s ae hp;refine TW.rangeFunc (kp:=MZ X) (T:=⟨val,w0,lo,true⟩) (Bv hH) hX hdr rfl M0 (λv l s ae hp=>GC hX hdr hH qb wb v l s ae hp) (λv l s ae hp=>Bx hX hdr hH qb wb v l s ae hp) (hk:=hk) ?_ (hg s ae hp);intro fi fn c gK hc d hd yt h hh B Ti hs y ae hp;obtain⟨h1,h2⟩:=hu fi yt h _ hh;have e:bE PR fi (Code.rZ d)=d:=by unfold uniq at h1;rw[gK] at h1;simp only[hc] at h1;unfold bE;rw[gK];simp only[hc,jn _ (dq _ h1) hd,zby]
 have:=h2 B Ti hs y ae hp;rwa [e] at this
theorem LY.par{X:XF}{w0:World}(hX:eG PR w0 X.cf){H HN:List (FuncId×bh)}(hdr:PR.follows .mixedOrders=true)(hH:HD X H)(qb:OB w0 HN){f id base:Nat}{keep:Option (List Nat×List Nat)}{yt fi Dl:Nat}(wb:uI f id=true)(hc:b8 (qS fi) (bE PR fi Dl)=true)(zL:(aM (bE PR fi Dl)).isEmpty=true){g:Lg}
  {A B:Type} (hd:A->B->S×(PX×S)) (Inv:A->B->Prop) (mu:A->B->Nat) (Out:A->PX×S×(PX×S)->Prop)
  (hr: ∀a b,Inv a b->Li H HN f id base keep yt fi Dl (hd a b) (IC (mu a b) (λm y=> ∃b',y=hd a b'/\Inv a b'/\m=mu a b') (Out a)))
  (hg: ∀y ae,g y ae-> ∃a b,y=hd a b/\Inv a b/\ ∀x,Out a x->ae x):LY w0 f id yt fi Dl (Bh (aL fi Dl) g):=by
 intro Be Ti hs y ae hp;unfold Bh at hp;cases hh:cH (aL fi Dl) y.1 with
 |none=>simp only[hh] at hp
 |some s0=>
  simp only[hh] at hp;obtain⟨a,b,h0,h1,h2⟩:=hg (s0,y.2) ae hp;refine qc.mono (qc.loop (keep:=aL fi Dl) (I:=λm s c=> ∃b',(s,c)=hd a b'/\Inv a b'/\m=mu a b') (O:=Out a) (hs.w0i.trans hs.w0b.symm) (λn s c hI=> ?_) hh ⟨b,h0,h1,rfl⟩) h2;obtain⟨b',h3,h4,rfl⟩:=hI;have:=hr a b' h4;rw[<-h3] at this;unfold Li at this;refine qc.mono (gN (B:=Be) (Ti:=Ti) (kp:=MZ X) (Bv hH) (by rw[hs.w0i];exact hX) hdr (hs.w0i.trans hs.w0b.symm) hs.Ph hs.yv hs.lp (asg:=Lh H HN f id) (body:=Dk H HN f id) (base:=base) (keep:=keep)
   (λv l s ae hp=>by rw[hs.w0b,hs.asg];exact GC hX hdr hH qb wb v l s ae hp) (λv l s ae hp=>by rw[hs.w0b,hs.body];exact Bx hX hdr hH qb wb v l s ae hp)
   (bE PR fi Dl) hc (λd hd=>by rw[zb5.1 zL] at hd;cases hd) (s,c) _ (by rw[hs.ps];exact this)) ?_
  rintro⟨e,s1,c1⟩ hx;cases e with
  |normal=>obtain⟨s2,h4,m,h5,h6⟩:=KW.dR (p:=λs2=>cH (aL fi Dl) s1=some s2) (λ_ h=>h) _ hx;exact⟨s2,h4,m,h5,h6⟩
  |exit i=>obtain⟨s2,h4,h5⟩:=KW.dR (p:=λs2=>eE (aL fi Dl) s1=some s2) (λ_ h=>h) _ hx;exact⟨s2,h4,h5⟩
  |ret=>obtain⟨s2,h4,h5⟩:=KW.dR (p:=λs2=>eE (aL fi Dl) s1=some s2) (λ_ h=>h) _ hx;exact⟨s2,h4,h5⟩
variable{X:XF}
theorem LN.idx{w0:World}(hX:eG PR w0 X.cf){H HN:List (FuncId×bh)}{hk:List (Nat×(S->K (PX×S)))}{f id:Nat}{g:S->K (PX×S)}(hdr:PR.follows .mixedOrders=true)(hu:uniq PR f=true)(hc:b8 (qS f) (bE PR f id)=true)(hnr:(bZ (bE PR f id)).isEmpty=true)(hH:HD X H)(qb:OB w0 HN)(hl:LNs w0 f hk)
  {A B:Type} (hd:A->B->Int->S) (len:A->Nat) (Inv:A->Nat->B->Prop) (Out:A->PX×S->Prop)
  (hr: ∀a b (k:Int) ae,0<=k->k<len a->k.toNat<len a->Inv a k.toNat b->(∀b',Inv a (k.toNat+1) b'->ae (.normal,hd a b' (k+1)))->(∀x,x.1≠ .normal->Out a x->ae x)->wU H HN hk f id (hd a b k) ae)
  (hx: ∀a b (k:Int) ae,k=len a->Inv a (len a) b->(∀x,x.1≠ .normal->Out a x->ae x)->wU H HN hk f id (hd a b k) ae)
  (hg: ∀s ae,g s ae-> ∃a b,s=hd a b 0/\Inv a 0 b/\ ∀x,Out a x->ae x):LN w0 f id (ah (aL f id) g):=
 LN.par hX hdr hu hc hnr hH qb hl (A:=A) (B:=B×Int) (λa b=>hd a b.1 b.2) (λa b=>0<=b.2/\b.2.toNat<=len a/\Inv a b.2.toNat b.1) (λa b=>(len a-b.2).toNat) Out
  (by
   rintro a ⟨b,k⟩ ⟨h1,h2,h3⟩;dsimp only at*
   have aW: ∀x:PX×S,x.1≠ .normal->Out a x->roundPost ((len a-k).toNat) (λm s=> ∃b':B×Int,s=hd a b'.1 b'.2/\(0<=b'.2/\b'.2.toNat<=len a/\Inv a b'.2.toNat b'.1)/\m=(len a-b'.2).toNat) (Out a) x:=by
    rintro⟨e,s⟩ cU hx;cases e with
    |normal=>exact absurd rfl cU
    |exit i=>exact hx
    |ret=>exact hx
   by_cases hk:k<len a
   ·refine hr a b k _ h1 hk (by omega) h3 (λb' hb=> ?_) aW;exact⟨((len a:Int)-(k+1)).toNat,by omega,(b',k+1),rfl,⟨by show 0<=k+1;omega,by show(k+1).toNat<=len a;omega,by show Inv a (k+1).toNat b';rw[show(k+1).toNat=k.toNat+1 by omega];exact hb⟩,rfl⟩
   have e:k=len a:=by omega
   refine hx a b k _ e ?_ aW;have:k.toNat=len a:=by omega
   rwa [this] at h3)
  (by intro s ae hp;obtain⟨a,b,h1,h2,h3⟩:=hg s ae hp;exact⟨a,(b,0),h1,⟨zbI _,by simp,h2⟩,h3⟩)
theorem rQ{α:Type}(lt:α->α->Bool)(l:List α)(a:α):cc lt (l++[a])=ct lt (cc lt l) a:=by simp[cc]
theorem js{α:Type}(lt:α->α->Bool)(o:List α)(a:α):(ct lt o a).length=o.length+1:=by rw[(gR o a).length_eq];simp
theorem kA{α:Type}(lt:α->α->Bool)(l:List α):(cc lt l).length=l.length:=(cI l).length_eq
def vV{α:Type}(o:List α)(k:Nat)(x y:α):List α:=(o.set k y).set (k-1) x
theorem Nz{α:Type}(o:List α)(k:Nat)(x y:α):(vV o k x y).length=o.length:=by simp[vV]
theorem iQ{α:Type}(f:α->D)(o:List α)(k:Nat)(x y:α):(((o.map f).set k (f y)).set (k-1) (f x))=(vV o k x y).map f:=by simp[vV,List.map_set]
theorem Sz{α:Type}(pre nZ:List α)(x y:α):vV (pre++[y]++x::nZ) (pre.length+1) x y=pre++x::(y::nZ):=by unfold vV;have e:pre++[y]++x::nZ=(pre++[y])++x::nZ:=rfl;rw[show(pre++[y]++x::nZ).set (pre.length+1) y=pre++[y]++y::nZ by rw[List.set_append_right _ _ (by simp)];simp];rw[zaF,List.set_append_right _ _ (by simp)];simp
variable{X:XF}
theorem LD.ins{H:List (FuncId×bh)}{hk:List (Nat×(S->K (PX×S)))}{f id:Nat}{g:S->K (PX×S)}(hu:uniq PR f=true)(hc:b8 (qS f) (bE PR f id)=true)(hH:HD X H)(hl:QI X f hk)
  {A α:Type} (hd:A->List α->Int->S) (lt:α->α->Bool) (N:A->Nat) (C:A->Prop) (ex:A->List α->PX×S) (cU: ∀a o,(ex a o).1≠ .normal)
  (hr: ∀a o (k:Int) ae,C a->0<=k->o.length=N a->N a<=1000001->(dy:k.toNat<o.length)->(k=0->ae (ex a o))->(0<k->lt o[k.toNat] (o[k.toNat-1]'(by omega))=false->ae (ex a o))->
   (0<k->lt o[k.toNat] (o[k.toNat-1]'(by omega))=true->ae (.normal,hd a (vV o k.toNat o[k.toNat] (o[k.toNat-1]'(by omega))) (k-1)))->aC H hk f id (hd a o k) ae)
  (hg: ∀s ae,g s ae-> ∃(a:A) (o:List α) (x:α) (k:Int),s=hd a (o++[x]) k/\k=o.length/\C a/\(o.length+1=N a/\o.length<=1000000)/\ae (ex a (ct lt o x))):LD X f id (ah (aL f id) g):=
 LD.par hu hc hH hl (A:=A×List α×α) (B:=List α×List α×Int) (λa b=>hd a.1 (b.1++a.2.2::b.2.1) b.2.2)
  (λa b=>(C a.1/\b.1.length+b.2.1.length+1=N a.1)/\b.2.2=b.1.length/\b.1.length+b.2.1.length<=1000000/\(nV lt a.2.2 b.1.reverse).reverse++b.2.1=ct lt a.2.1 a.2.2) (λ_ b=>b.1.length) (λa x=>x=ex a.1 (ct lt a.2.1 a.2.2))
  (by
   rintro⟨a,o,x⟩ ⟨pre,nZ,k⟩ ⟨⟨h1,hN⟩,h2,h3,h4⟩;dsimp only at*
   have aW: ∀y,y=ex a (ct lt o x)->roundPost pre.length (λm s=> ∃b':List α×List α×Int,s=hd a (b'.1++x::b'.2.1) b'.2.2/\((C a/\b'.1.length+b'.2.1.length+1=N a)/\b'.2.2=b'.1.length/\b'.1.length+b'.2.1.length<=1000000/\(nV lt x b'.1.reverse).reverse++b'.2.1=ct lt o x)/\m=b'.1.length) (λy=>y=ex a (ct lt o x)) y:=by
    rintro⟨e,s⟩ he;have hn:=cU a (ct lt o x);rw[<-he] at hn;cases e with
    |normal=>exact absurd rfl hn
    |exit i=>exact he
    |ret=>exact he
   have dy:k.toNat=pre.length:=by omega
   have hlen:(pre++x::nZ).length=pre.length+nZ.length+1:=by simp;omega
   have hx:(pre++x::nZ)[k.toNat]'(by omega)=x:=by simp[dy]
   refine hr a (pre++x::nZ) k _ h1 (by omega) (by omega) (by omega) (by omega) (λhz=>aW _ ?_) (λhp bz=>aW _ ?_) λhp bz=> ?_
   ·have:pre=[]:=zax (by omega);subst this;rw[<-h4];simp[nV]
   ·obtain⟨p,y,rfl⟩: ∃p y,pre=p++[y]:=by
     rcases zcK pre with h | ⟨p,y,h⟩
     ·subst h;simp at h2;omega
     exact⟨p,y,by simpa using h⟩
    have hy:(p++[y]++x::nZ)[k.toNat-1]'(by omega)=y:=by simp[dy]
    rw[hx,hy] at bz;rw[<-h4];simp[nV,bz]
   obtain⟨p,y,rfl⟩: ∃p y,pre=p++[y]:=by
    rcases zcK pre with h | ⟨p,y,h⟩
    ·subst h;simp at h2;omega
    exact⟨p,y,by simpa using h⟩
   have hy:(p++[y]++x::nZ)[k.toNat-1]'(by omega)=y:=by simp[dy]
   have hsw:vV (p++[y]++x::nZ) k.toNat x y=p++x::(y::nZ):=by rw[dy,zaj];exact Sz p nZ x y
   have Fp:(p++[y]).length=p.length+1:=by simp
   rw[hx,hy] at bz⊢;refine⟨p.length,by omega,(p,y::nZ,k-1),by rw[hsw],⟨⟨h1,by show p.length+(y::nZ).length+1=N a;simp only[zam];omega⟩,by show k-1=(p.length:Int);omega,by show p.length+(y::nZ).length<=1000000;simp only[zam];omega,?_⟩,rfl⟩;show(nV lt x p.reverse).reverse++y::nZ=ct lt o x;rw[<-h4];simp[nV,bz])
  (by intro s ae hp;obtain⟨a,o,x,k,h1,h2,h3,⟨h6,h4⟩,h5⟩:=hg s ae hp;refine⟨(a,o,x),(o,[],k),h1,⟨⟨h3,by simpa using h6⟩,h2,by simpa using h4,by simp[ct]⟩,?_⟩;rintro y rfl;exact h5)
def fN(h:Hd):D:= .agg [iE h.1.1,iE h.1.2,iE h.2.1,iE h.2.2]
abbrev wo(z:Bool)(l:List Hd):Obj:= .arr 131 z (l.map fN)
abbrev yN(l:List Hd):P:= .d (.sl 4 (l.map fN))
abbrev qdE(l out:List Hd)(had:Bool)(i k:Int):S:=⟨80,[(0,yN l),(3,.sl 0 0 out.length),(4,iD i),(5,.d (.bool had)),(6,iD k)],[(0,⟨0,none,wo false out⟩)]⟩
def wq(out:List Hd)(k:Int):D:=D.nth (List.map fN out) (Zb k)
def Af(out:List Hd):Nat:=List.length (List.map fN out)
noncomputable def By(out:List Hd)(k:Int):Bool:=cT PR (131:TypeId) (wq out k)
def Hw(k:Int)(out:List Hd):Bool:=decide (Zb k<Af out)
def yO(out:List Hd):Int:=(↑(List.length out):Int)
def Hx(k:Int)(out:List Hd):Bool:=decide ((0:Int)<=k/\k<yO out)
def GD(out:List Hd):En:=En.mk 0 none (Obj.arr (131:TypeId) false (List.map fN out))
def zn(out:List Hd):Nat×En:=(0,GD out)
def wu(out:List Hd):List (Nat×En):=[zn out]
def qZ(out:List Hd):Nat×P:=(3,P.sl 0 0 (List.length out))
def Dm(l:List Hd):Nat×P:=(0,P.d (D.sl 4 (List.map fN l)))
theorem SA(l out:List Hd)(had:Bool)(i k:Int)(ae:PX×S->Prop):(bif decide (k<yO out) then bif had then ob (Zd k) (ae (PX.normal,S.mk 80 (Dm l::qZ out::ml i::(5,ZC)::Zt k) (wu out))) else ob (Hx k out) (ob (Hw k out) (ob (By out k) (ob (decide ((0:Int)<=i/\i<(↑(Af l):Int))) (ob (By l i) (ob (Zd k) (ae (PX.normal,S.mk 80 (Dm l::qZ out::ml i::(5,P.d (D.bool (D.aj (D.ax (wq out k) 0)==D.aj (D.ax (wq l i) 0)&&(D.aj (D.ax (wq out k) 1)==D.aj (D.ax (wq l i) 1)&&true))))::Zt k) (wu out)))))))) else ae (PX.exit 2,S.mk 80 [Dm l,qZ out,ml i,(5,fX had)] (wu out)))=(aC [] [] 51 7 (qdE l out had i k)) ae:=by kernel_rfl
abbrev qif(l out:List Hd)(i k:Int):S:=⟨80,[(0,yN l),(3,.sl 0 0 out.length),(4,iD i),(7,iD k)],[(0,⟨0,none,wo false out⟩)]⟩
def Yj(out:List Hd)(k:Int):List D:=[D.int .i64 (D.aj (D.ax (wq out k) 0)),D.int .i64 (D.aj (D.ax (wq out k) 1)),D.int .i64 (D.aj (D.ax (wq out k) 2)),D.int .i64 (D.aj (D.ax (wq out k) 3))]
def Yk(out:List Hd)(k:Int):D:=D.nth (List.map fN out) (Z8 k)
def Z5p(out:List Hd)(k:Int):List D:=List.set (List.map fN out) (Zb k) (D.bc (D.agg (Yj out k)) [D.int .i64 (D.aj (D.ax (Yk out k) 0)),D.int .i64 (D.aj (D.ax (Yk out k) 1)),D.int .i64 (D.aj (D.ax (Yk out k) 2)),D.int .i64 (D.aj (D.ax (Yk out k) 3))])
def Z5q(out:List Hd)(k:Int):D:=D.agg [D.int .i64 (D.aj (D.ax (wq out k) 0)),D.int .i64 (D.aj (D.ax (wq out k) 1))]
def Z5m(k:Int)(out:List Hd):Bool:=decide ((0:Int)<=k-(1:Int)/\k-(1:Int)<yO out)
theorem qdF(l out:List Hd)(i k:Int)(ae:PX×S->Prop):(bif Zk k then ob (Z7 k) (ob (Z5m k out) (ob (decide (Z8 k<Af out)) (ob (cT PR (131:TypeId) (Yk out k)) (ob (Hx k out) (ob (Hw k out) (ob (By out k) (∃(a:aO) (b:aO),[P.d (D.agg [D.int .i64 (D.aj (D.ax (Yk out k) 0)),D.int .i64 (D.aj (D.ax (Yk out k) 1))]),P.d (Z5q out k)]=P.d (D.agg [oP a,oO a])::r9 b/\Zq/\ ∀(r:Bool),r=r8 a b->bif r then ob (Z7 k) (ob (Z7 k) (ob (Z5m k out) (ob (decide (Z8 k<Af out)) (ob (cT PR (131:TypeId) (Yk out k)) (ob (Hx k out) (ob (Hw k out) (ob (By out k) (ob (Hx k out) (ob (Hw k out) (ob (By out k) (ob (Z5m k out) (ob (decide (Z8 k<List.length (Z5p out k))) (ob (cT PR (131:TypeId) (D.nth (Z5p out k) (Z8 k))) (ob (Z7 k) (ae (PX.normal,S.mk 80 [Dm l,qZ out,ml i,(7,Zl k)] [(0,En.mk 0 none (Obj.arr (131:TypeId) false (List.set (Z5p out k) (Z8 k) (D.bc (D.agg [D.int .i64 (D.aj (D.ax (D.nth (Z5p out k) (Z8 k)) 0)),D.int .i64 (D.aj (D.ax (D.nth (Z5p out k) (Z8 k)) 1)),D.int .i64 (D.aj (D.ax (D.nth (Z5p out k) (Z8 k)) 2)),D.int .i64 (D.aj (D.ax (D.nth (Z5p out k) (Z8 k)) 3))]) (Yj out k)))))])))))))))))))))) else ae (PX.exit 4,S.mk 80 (Dm l::qZ out::Jx i) (wu out))))))))) else ae (PX.exit 4,S.mk 80 (Dm l::qZ out::Jx i) (wu out)))=(aC [(79,pO)] [] 51 13 (qif l out i k)) ae:=by kernel_rfl
abbrev SB(l out:List Hd)(i:Int):S:=⟨80,[(0,yN l),(3,.sl 0 0 out.length),(4,iD i)],[(0,⟨0,none,wo false out⟩)]⟩
abbrev Yl(l:List av)(out:List Hd)(i:Int):S:=⟨26,[(0,dD l),(3,.sl 0 0 out.length),(4,iD i)],[(0,⟨0,none,wo false out⟩)]⟩
def OD(out:List Hd):List D:=List.take (List.length out) (List.map fN out)
def Z5r(l:List av)(i:Int):List D:=[D.agg [Dj l i,Bw l i,D.int .i64 (D.aj (D.ax (nY l i) 4)),D.int .i64 (D.aj (D.ax (nY l i) 5))]]
theorem SC(l:List av)(out:List Hd)(i:Int)(ae:PX×S->Prop):(bif yM i l then ob (oB i l) (ob (jP l i) (ob (oB i l) (ob (jP l i) (ob (Nat.ble (List.length out) (Af out)&&aJ (List.length out+List.length (Z5r l i)) 32) (ob (Zd i) (ae (PX.normal,S.mk 26 (dB l::(3,P.sl 0 0 (List.length out+List.length (Z5r l i)))::sa i) [(0,En.mk 0 none (Obj.arr (131:TypeId) false (OD out++Z5r l i)))]))))))) else ae (PX.exit 0,S.mk 26 [qZ out] (wu out)))=(aC [] [] 26 3 (Yl l out i)) ae:=by kernel_rfl
theorem uJ(h:Hd):cT PR 131 (fN h)=true:=by kernel_rfl
def GF(U:List aO)(o:List Hd):Prop:= ∀x,x∈U↔(o.any λy=>y.1==x)=true
theorem GF.nil:GF [] []:=λx=>by simp
theorem GF.had{U:List aO}{o:List Hd}{x:aO}(h:GF U o)(hx:x∈U):GF (x::U) o:=λy=>by
 rw[zas,h y];constructor
 ·rintro(rfl |h2)
  ·exact(h _).1 hx
  exact h2
 exact .inr
theorem GF.new{U:List aO}{o:List Hd}{g:Hd}(h:GF U o):GF (g.1::U) (o++[g]):=λy=>by
 rw[zas,h y,zcc,za1];simp only[zcX,zc6,zcY,zbp];constructor
 ·rintro(rfl |h2)
  ·exact .inr rfl
  exact .inl h2
 rintro(h2 |rfl)
 ·exact .inr h2
 exact .inl rfl
theorem SD{l:List Hd}{i:Nat}(h:i<l.length):Ad (l.take (i+1))=Ns (Ad (l.take i)) l[i]:=by rw[zaf h];unfold Ad;rw[zbd];rfl
theorem Ym{o:List Hd}{h:Hd}(hx:(o.any λx=>x.1==h.1)=true):Ns o h=o:=by unfold Ns;rw[zaq hx]
theorem Yn{o:List Hd}{h:Hd}(hx:(o.any λx=>x.1==h.1)=false):Ns o h=o++[h]:=by unfold Ns;rw[zap (by rw[hx];simp)]
section
variable{X:XF}
end
abbrev Ag(z:Bool)(l:List aO):Obj:= .arr 48 z (l.map eD)
abbrev aT:=aq×aO
structure Tl where
 a:List aq
 p:List Pl
 h:List aT
 g:List aT
def tl0:Tl:=⟨[],[],[],[]⟩
def Dn(o:bs):Pl:=(o.node,o.parent,o.name,o.dir)
def lQ(on:Bool)(o:bs):Bool:=o.kind==0 || (o.kind==1&&on)
def mU(on:Bool)(o:bs):Bool:=on&& !(o.kind==2)
def SE(on:Bool)(s:aO)(t:Tl)(o:bs)(k:Nat):Tl:=
 ⟨if lQ on o=true then t.a++[(s.1,s.2,(k:Int))] else t.a,if lQ on o=true then t.p++[Dn o] else t.p,
  if mU on o=true then t.h++[(o.node,s)] else t.h,if on=true then t.g++o.db.map (λd=>(o.node,d)) else t.g⟩
def OE(on:Bool)(s:aO)(l:List bs)(t:Tl):Tl:=l.zipIdx.foldl (λt p=>SE on s t p.1 p.2) t
def tlG(on:List aO)(t:Tl)(g:av):Tl:=OE (decide (g.s∈on)) g.s g.ops t
def gF(on:List aO)(l:List av):Tl:=l.foldl (tlG on) tl0
theorem GG{on:Bool}{s:aO}{l:List bs}{t:Tl}{i:Nat}(h:i<l.length):OE on s (l.take (i+1)) t=SE on s (OE on s (l.take i) t) l[i] i:=by unfold OE;rw[zaf h,List.zipIdx_append,zbd];simp[zat,zbW (Nat.le_of_lt h)]
theorem yP{on:List aO}{l:List av}{i:Nat}(h:i<l.length):gF on (l.take (i+1))=tlG on (gF on (l.take i)) l[i]:=by unfold gF;rw[zaf h,zbd];rfl
def cB(l:List av):Nat:=(l.map λg=>g.ops.length).sum
theorem lg:cB []=0:=rfl
theorem gU(g:av)(l:List av):cB (g::l)=g.ops.length+cB l:=by simp[cB]
theorem yQ(a b:List av):cB (a++b)=cB a+cB b:=by simp[cB]
theorem qf(l:List av)(i:Nat):cB (l.take i)<=cB l:=by have:=yQ (l.take i) (l.drop i);rw[zbv] at this;omega
theorem n0{l:List av}{i:Nat}(h:i<l.length):cB (l.take (i+1))=cB (l.take i)+l[i].ops.length:=by rw[zaf h,yQ,gU,lg];omega
theorem Bz: ∀(l o:List av),cB (l.foldl kg o)<=cB o+cB l
 | [],o=>by simp[lg]
 |g::r,o=>by
  have h1:=Bz r (kg o g);have h2:cB (kg o g)<=cB o+g.ops.length:=by
   unfold kg;split
   ·rw[yQ,gU,lg];omega
   omega
  rw[za4,gU];omega
theorem rR(l:List av):cB (au l)<=cB l:=by simpa [au,lg] using Bz l []
def zo(n:Nat)(t:Tl):Prop:=t.a.length=t.p.length/\t.a.length<=n/\t.h.length<=n/\t.g.length<=200*n
theorem zo.zero:zo 0 tl0:=⟨rfl,zai _,zai _,zai _⟩
theorem zo.mono{n m:Nat}{t:Tl}(h:zo n t)(hm:n<=m):zo m t:=⟨h.1,by have:=h.2.1;omega,by have:=h.2.2.1;omega,by have:=h.2.2.2;omega⟩
theorem zo.op{n:Nat}{t:Tl}(h:zo n t){on:Bool}{s:aO}{o:bs}{k:Nat}(hd:o.db.length<=200):zo (n+1) (SE on s t o k):=by
 obtain⟨h0,h1,h2,h3⟩:=h;unfold zo SE;refine⟨?_,?_,?_,?_⟩
 ·dsimp only;split<;>simp[h0]
 ·dsimp only;split
  ·simp;omega
  omega
 ·dsimp only;split
  ·simp;omega
  omega
 dsimp only;split
 ·simp;omega
 omega
theorem zo.ops{n:Nat}{t:Tl}(h:zo n t){on:Bool}{s:aO}{l:List bs}(hd: ∀o∈l,o.db.length<=200): ∀i,i<=l.length->zo (n+i) (OE on s (l.take i) t)
 |0,_=>by simpa [OE] using h
 |i+1,hi=>by rw[GG hi];exact(zo.ops h hd i (by omega)).op (hd _ (zar hi))
theorem zo.grp{n:Nat}{t:Tl}(h:zo n t){on:List aO}{g:av}(hd: ∀o∈g.ops,o.db.length<=200):zo (n+g.ops.length) (tlG on t g):=by have:=zo.ops h (on:=decide (g.s∈on)) (s:=g.s) hd g.ops.length (zai _);rwa [zag] at this
theorem SF{s:aO}{k n:Int}{o:bs}(h:mS s k o=some n):o.db.length<=200:=by
 unfold mS at h;split at h
 ·cases h
 rename_i hb;by_cases h2:o.kind=2
 ·rw[zap (by omega),zap (by omega),zaq h2] at h;split at h
  next hd=>have:=hd.2;unfold tf at this;rw[zad,zal] at this;exact this.2
  cases h
 have:o.db.length=0:=by
  simp only[zcx,jr,mR,zad,za1,zbp] at hb;rcases hb.1.1.2 with h |h
  ·exact absurd h h2
  exact h
 omega
theorem GH{P:bs->Prop}{s:aO}(hP: ∀k n o,mS s k o=some n->P o): ∀(l:List bs) (k:Int),nW s k l=true-> ∀o∈l,P o
 | [],_,_,_,h=>by cases h
 |o::r,k,h,x,hx=>by
  unfold nW at h;split at h
  next n hn=>
   rcases zas.1 hx with rfl |hx
   ·exact hP k n _ hn
   exact GH hP r _ h x hx
  cases h
theorem Dp{g:av}(h:dC g=true):nW g.s 0 g.ops=true:=by
 unfold dC at h;rw[zad] at h;have h2:=h.2;split at h2
 ·simp only[zad,zbp] at h2;rw[zax h2.2];rfl
 rw[zad] at h2;exact h2.2
theorem yR{g:av}(h:dC g=true): ∀o∈g.ops,o.db.length<=200:=GH (P:=λo=>o.db.length<=200) (λ_ _ _ h=>SF h) _ _ (Dp h)
theorem yS{g:av}(h:dC g=true):g.ops.length<=200:=by
 unfold dC at h;rw[zad] at h;have h2:=h.2;split at h2
 ·simp only[zad,zbp] at h2;omega
 rw[zad,zal] at h2;exact h2.1.2
theorem vW{on:List aO}{l:List av}(hc: ∀g∈l,dC g=true): ∀i,i<=l.length->zo (cB (l.take i)) (gF on (l.take i))
 |0,_=>by simpa [gF,lg] using zo.zero
 |i+1,hi=>by rw[yP hi,n0 hi];exact(vW hc i (by omega)).grp (yR (hc _ (zar hi)))
def SmV(l:List av):Prop:=cB l<=1000
theorem NA{s:List UInt8}(h:bR s=true):bQ s=true:=by have h1:=wO h (c:=126) rfl;simp[bQ,sW h1,h,h1]
def Rt(T:List Pl):Prop:=Uq T/\ ∀p∈T,qu p=true
theorem qdG{T:List Pl}(h:Rt T)(p:Pl):Rt (Jh T p):=by
 unfold Jh;split
 ·exact h
 rename_i h0;split
 next hp=>
  refine⟨?_,λq hq=> ?_⟩
  ·unfold Uq;rw[zaG,zbb];refine⟨h.1,by simp,λa ha b hb=> ?_⟩;simp at hb;subst hb;intro e;obtain⟨q,hq,hqa⟩:=zaX.1 ha;apply h0;unfold dz;rw[List.find?_isSome];exact⟨q,hq,by simp[hqa,e]⟩
  rcases zaB.1 hq with hq |hq
  ·exact h.2 q hq
  simp at hq;subst hq;exact hp
 exact h
theorem SG: ∀(l T:List Pl),Rt T->Rt (l.foldl Jh T)
 | [],_,h=>h
 |p::r,_,h=>SG r _ (qdG h p)
theorem Dq(l:List Pl):Rt (ly l):=SG l [] ⟨by simp[Uq],by simp⟩
theorem Yo(T:List Pl)(p:Pl):(Jh T p).length<=T.length+1:=by
 unfold Jh;split
 ·omega
 split
 ·simp
 omega
theorem Lj: ∀(l T:List Pl),(l.foldl Jh T).length<=T.length+l.length
 | [],_=>by simp
 |p::r,T=>by have:=Lj r (Jh T p);have:=Yo T p;simp only[za4,zam];omega
theorem qg(l:List Pl):(ly l).length<=l.length:=by simpa [ly] using Lj l []
def DU(L:List Pl)(p:Pl):List UInt8:=if L.any (λq=>decide (q.2.1=p.2.1)&&(q.2.2.1==p.2.2.1)&&lz q.1 p.1) then(k9 p.2.2.1 p.1.1 p.1.2.1 p.1.2.2).1 else p.2.2.1
def q4(T:List Pl)(live:List aq)(x:aq):List UInt8:=match dz T x with |some p=>DU (aQ T live) p |none=>[]
def uK(T:List Pl)(live:List aq)(x:aq):List (List UInt8):=match wy T x with |some w=>w.reverse.map (q4 T live)|none=>[]
def oD(T:List Pl)(live:List aq)(x:aq):List UInt8:=cE (uK T live x)
abbrev It:=aq×List UInt8×Bool×Bool
def dQ(T:List Pl)(live:List aq)(p:Pl):It:=(p.1,oD T live p.1,p.2.2.2,!decide (p.1∈live))
abbrev GI(a b:It):Bool:=Op.bytesLess a.2.1 b.2.1
def bY(T:List Pl)(live:List aq):List It:=cc GI ((aQ T live).map (dQ T live))
section
variable{T:List Pl}{live:List aq}
theorem uL{p:Pl}(h:qu p=true):(k9 p.2.2.1 p.1.1 p.1.2.1 p.1.2.2).1=p.2.2.1++126::eU p.1.1 p.1.2.1 p.1.2.2:=by simp only[qu,zad] at h;rw[k9,zaq h.2,zaq h.1]
theorem GJ{L:List Pl}{p:Pl}(h:qu p=true):bQ (DU L p)=true:=by
 have h':=h;simp only[qu,zad] at h';unfold DU;split
 ·rw[uL h];exact I1 h'.2 h'.1
 exact NA h'.2
theorem Yp{L:List Pl}{p q:Pl}(hp:p∈L)(hq:q∈L)(op:qu p=true)(oq:qu q=true)(Yq:p.2.1=q.2.1)(h:DU L p=DU L q):p.1=q.1:=by
 have op':=op;have oq':=oq;simp only[qu,zad] at op' oq';unfold DU at h;split at h
 next c1=>
  split at h
  next c2=>rw[uL op,uL oq] at h;obtain⟨_,h1,h2,h3⟩:=Nb op'.2 op'.1 oq'.2 oq'.1 h;exact Prod.ext h1 (Prod.ext h2 h3)
  rw[uL op] at h;rw[<-h] at oq';rw[yx] at oq';cases oq'.2
 rename_i c1;split at h
 ·rw[uL oq] at h;rw[h] at op';rw[yx] at op';cases op'.2
 rename_i c2;refine RI.q9 _ _ ?_ ?_
 ·cases hl:lz p.1 q.1 with
  |false=>rfl
  |true=>exact absurd (zbG.2 ⟨p,hp,by simp[Yq,h,hl]⟩) c2
 cases hl:lz q.1 p.1 with
 |false=>rfl
 |true=>exact absurd (zbG.2 ⟨q,hq,by simp[Yq,h,hl]⟩) c1
theorem BA: ∀{a b:List (List UInt8)},(∀x∈a,(47:UInt8)∉x)->(∀x∈b,(47:UInt8)∉x)->cE a=cE b->a=b
 | [],[],_,_,_=>rfl
 | [],_::_,_,_,h=>by simp[cE] at h
 |_::_,[],_,_,h=>by simp[cE] at h
 |x::a,y::b,ha,hb,h=>by
  have h':x++cE a=y++cE b:=by simpa [cE] using h
  have key: ∀(x y:List UInt8) (u v:List (List UInt8)),(47:UInt8)∉x->(47:UInt8)∉y->x++cE u=y++cE v->x=y:=by
   intro x
   induction x with
   |nil=>
    intro y u v _ hy h;cases y with
    |nil=>rfl
    |cons c y=>
     cases u with
     |nil=>simp[cE] at h
     |cons z u=>simp[cE] at h;exact absurd (by simp[h.1]) hy
   |cons c x ih=>
    intro y u v hx hy h;cases y with
    |nil=>
     cases v with
     |nil=>simp[cE] at h
     |cons z v=>simp[cE] at h;exact absurd (by simp[h.1]) hx
    |cons d y=>simp only[zbF,zbX] at h;rw[h.1,ih y u v (λm=>hx (by simp[m])) (λm=>hy (by simp[m])) h.2]
  have e:=key x y a b (ha x (by simp)) (hb y (by simp)) h';subst e;rw[BA (λz hz=>ha z (by simp[hz])) (λz hz=>hb z (by simp[hz])) (List.append_cancel_left h')]
theorem pP(hT:Rt T)(x:aq): ∀s∈uK T live x,bQ s=true:=by
 intro s hs;unfold uK at hs;cases hw:wy T x with
 |none=>rw[hw] at hs;cases hs
 |some w=>rw[hw] at hs;obtain⟨u,hu,rfl⟩:=zaX.1 hs;obtain⟨w',h1,_⟩:=(C9.1 hw).sub u (by simpa using hu);obtain⟨p,hp⟩:=h1.at;unfold q4;rw[hp];exact GJ (hT.2 p (du hp).1)
theorem tv{x:aq}{p:Pl}(h:marked T live x=true)(hp:dz T x=some p):p∈aQ T live:=by obtain⟨h1,h2⟩:=du hp;exact zb0.2 ⟨h1,by rw[h2];exact h⟩
theorem qdH(hT:Rt T){x:aq}{w:List aq}(h:Up T x w): ∀{y v},Up T y v->(∀u∈w,marked T live u=true)->(∀u∈v,marked T live u=true)->w.map (q4 T live)=v.map (q4 T live)->x=y:=by
 have hd: ∀{a b:aq} {p q:Pl},dz T a=some p->dz T b=some q->marked T live a=true->marked T live b=true->p.2.1=q.2.1->q4 T live a=q4 T live b->a=b:=by intro a b p q ha hb ma mb Yq h;unfold q4 at h;rw[ha,hb] at h;have:=Yp (tv ma ha) (tv mb hb) (hT.2 p (du ha).1) (hT.2 q (du hb).1) Yq h;rw[<-(du ha).2,<-(du hb).2,this]
 induction h with
 | @top x p h h0=>
  intro y v hv mw mv e;cases hv with
  |top h' h0'=>simp only[zaO,zb8,zbX,zdd] at e;exact hd h h' (mw _ (by simp)) (mv _ (by simp)) (by rw[h0,h0']) e
  |step _ _ _ _ hw=>obtain⟨r,rfl⟩:=hw.hd;simp at e
 | @step x p q w h h0 hq Jc hw ih=>
  intro y v hv mw mv e;cases hv with
  |top=>obtain⟨r,rfl⟩:=hw.hd;simp at e
  | @step y p' q' v h' h0' _ _ hv=>simp only[zaO,zbX] at e;have:=ih hv (λu hu=>mw u (by simp[hu])) (λu hu=>mv u (by simp[hu])) e.2;exact hd h h' (mw _ (by simp)) (mv _ (by simp)) this e.1
theorem lh{x:aq}{w:List aq}(h:Up T x w):uK T live x=w.reverse.map (q4 T live):=by unfold uK;rw[C9.2 h]
theorem NB(hT:Rt T){x y:aq}(hx:marked T live x=true)(hy:marked T live y=true)(h:oD T live x=oD T live y):x=y:=by obtain⟨w,hw,mw⟩:=ky hx;obtain⟨v,hv,mv⟩:=ky hy;have:=BA (λs hs=>wP (pP hT x s hs)) (λs hs=>wP (pP hT y s hs)) h;rw[lh hw,lh hv,zcC,zcC,List.reverse_inj] at this;exact qdH hT hw hv mw mv this
theorem tA{p:Pl}(h:p∈aQ T live):p∈T/\marked T live p.1=true:=by unfold aQ at h;rw[zb0] at h;exact h
theorem NC(hT:Rt T): ∀a∈(aQ T live).map (dQ T live),∀b∈(aQ T live).map (dQ T live),a.2.1=b.2.1->a=b:=by intro a ha b hb h;obtain⟨p,hp,rfl⟩:=zaX.1 ha;obtain⟨q,hq,rfl⟩:=zaX.1 hb;obtain⟨p1,p2⟩:=tA hp;obtain⟨q1,q2⟩:=tA hq;have e:=NB hT p2 q2 h;have e1:=tc hT.1 p1;have e2:=tc hT.1 q1;rw[e,e2] at e1;cases e1;rfl
theorem jt:(bY T live).Perm ((aQ T live).map (dQ T live)):=cI _
theorem NF:(bY T live).Pairwise λa b=>Op.bytesLess b.2.1 a.2.1=false:=uC K8 (λa:It=>a.2.1) _
theorem BB(hT:Rt T):(bY T live).Pairwise λa b=>Op.bytesLess a.2.1 b.2.1=true:=by
 have hn:(bY T live).Nodup:=by
  rw[jt.nodup_iff];have:(aQ T live).map (dQ T live)|>.map (·.1)|>.Nodup:=by
   have e:((aQ T live).map (dQ T live)).map (·.1)=RN T live:=by simp[RN,dQ]
   rw[e];exact vS hT.1 live
  exact List.Pairwise.of_map (λa:It=>a.1) (λa b h e=>h (by rw[e])) this
 refine(NF.and hn).imp_of_mem ?_;intro a b ha hb NG;cases hl:Op.bytesLess a.2.1 b.2.1 with
 |true=>rfl
 |false=>exact absurd (NC hT a (jt.mem_iff.1 ha) b (jt.mem_iff.1 hb) (K8.q9 _ _ hl NG.1)) NG.2
end
def dW(x:It):D:=itD x.1.1 x.1.2.1 x.1.2.2 x.2.1 x.2.2.1 x.2.2.2
theorem qdI(x:It):cT PR 52 (dW x)=true:=by obtain⟨⟨a,b,c⟩,d,e,f⟩:=x;kernel_rfl
theorem wV(L:List Pl){p:Pl}(h:qu p=true):(DU L p).length<=200:=by
 have h':=h;simp only[qu,zad] at h';have hn:p.2.2.1.length<=32:=by have:=h'.2;simp only[bR,zal] at this;exact this.2.1
 unfold DU;split
 ·rw[uL h];have hr:=h'.1;simp only[aY,zal] at hr;have l1:=gC (n:=p.1.1) (by omega) (by omega);have l2:=gC (n:=p.1.2.1) (by omega) (by omega);have l3:=gC (n:=p.1.2.2) (by omega) (by omega);simp[eU];omega
 omega
theorem SH: ∀(l:List (List UInt8)),(∀s∈l,s.length<=200)->Ri l<=201*l.length
 | [],_=>by simp[Ri,cE]
 |s::r,h=>by have h1:=SH r λx hx=>h x (by simp[hx]);have h2:=h s (by simp);simp only[Ri,cE,zbB,zaj,zam] at h1⊢;omega
theorem BD{T:List Pl}{V:List aq}(hT:Rt T){x:aq}{w:List aq}(hw:Up T x w):Ri (w.reverse.map (q4 T V))<=201*T.length:=by
 have:=SH (w.reverse.map (q4 T V)) λs hs=>by obtain⟨u,hu,rfl⟩:=zaX.1 hs;obtain⟨w',h1,_⟩:=hw.sub u (by simpa using hu);obtain⟨p,hp⟩:=h1.at;unfold q4;rw[hp];exact wV _ (hT.2 p (du hp).1)
 have hl:=hw.len;simp only[zaa,List.length_reverse] at this;omega
section
variable{X:XF}{w0:World}(hX:eG PR w0 X.cf)
include hX
end
def qy{α:Type}(f:α->Bool)(l:List α):Int:=match l.findIdx? f with |some i=>(i:Int)|none=> -1
abbrev bxI(n:Nat)(x:aq):List (Nat×En):=[(n,⟨0,none,.box 50 [.d (.int .i64 x.1),.d (.int .i64 x.2.1),.d (.int .i64 x.2.2)]⟩)]
abbrev qdJ(l:List Pl)(x:aq)(k:Int):S:=⟨20,[(0,eC l),(3,.ref 0 0 0),(5,iD k)],bxI 0 x⟩
def eJ(l:List Pl)(x:aq):Int:=qy (λp:Pl=>p.1==x) l
def qdK:S->K (PX×S):=λs ae=> ∃l x,s=qdJ l x 0/\l.length<=1000000/\(∀i:Int,i=eJ l x->0<=i->ae (.ret,⟨20,[(0,eC l),(4,iD i)],[]⟩))/\(eJ l x= -1->ae (.exit 0,⟨20,[(0,eC l)],[]⟩))
def lR(x:aq):En:=En.mk 0 none (Obj.box (50:TypeId) [P.d (fy x),P.d (fw x),P.d (fD x)])
def mn(x:aq):Nat×En:=(0,lR x)
def Jz(x:aq):List (Nat×En):=[mn x]
def fZ(l:List Pl):List D:=List.map eV l
def ij(l:List Pl):P:=P.d (D.sl 8 (fZ l))
def tS(l:List Pl):Nat×P:=(0,ij l)
def nf(l:List Pl)(k:Int):D:=D.nth (fZ l) (Zb k)
def Z5z(l:List Pl)(k:Int)(x:aq):Bool:=D.aj (D.ax (nf l k) 0)==Prod.fst x&&(D.aj (D.ax (nf l k) 1)==fC x&&true)&&(D.aj (D.ax (nf l k) 2)==fB x&&true)
noncomputable def oV(l:List Pl)(k:Int):Bool:=cT PR (93:TypeId) (nf l k)
def qh(l:List Pl):Nat:=List.length (fZ l)
def BE(k:Int)(l:List Pl):Bool:=decide ((0:Int)<=k/\k<(↑(qh l):Int))
def Lk(k:Int)(l:List Pl):Bool:=decide (k<(↑(qh l):Int))
theorem qbd(l:List Pl)(x:aq)(k:Int)(ae:PX×S->Prop):(bif Lk k l then ob (BE k l) (ob (oV l k) (bif Z5z l k x then ae (PX.ret,S.mk 20 (tS l::Jx k) []) else ob (Zd k) (ae (PX.normal,S.mk 20 (tS l::dv::Zi k) (Jz x))))) else ae (PX.exit 0,S.mk 20 [tS l] []))=(aC [] [] 54 2 (qdJ l x k)) ae:=by kernel_rfl
def jA(ar:List Pl):Nat:=List.length ar
def n5(ar:List Pl):Prop:=jA ar<=1000000
theorem qdL(l:List Pl)(x:aq)(ae:P×List (Nat×En)->Prop):(∃(ar:List Pl) (a7:aq),S.mk 20 (tS l::dv::ZB) (Jz x)=S.mk 20 (tS ar::dv::ZB) (Jz a7)/\n5 ar/\(∀(i:Int),i=eJ ar a7->(0:Int)<=i->ae (P.d (Zm i),[]))/\(eJ ar a7=(-1:Int)->r7 ae))=(aK [] [(2,ah (aL 54 2) qdK)] 54 [eC l,.d (cb x)] []) ae:=by kernel_rfl
def SI:bh:=λps R ae=> ∃l x,ps=[eC l,.d (cb x)]/\R=[]/\l.length<=1000000/\ae (iD (eJ l x),[])
abbrev BF(z:Bool)(l:List Pl):List (Nat×En):=[(0,⟨0,some 0,.arr 93 z (l.map eV)⟩)]
abbrev qdM(z:Bool)(l:List Pl)(n:Nat)(x:aq)(k:Int):S:=⟨20,[(0,.sl 0 0 n),(3,.ref 1 0 0),(5,iD k)],BF z l++bxI 1 x⟩
def SJ:S->K (PX×S):=λs ae=> ∃z l x,s=qdM z l l.length x 0/\l.length<=1000000/\(∀i:Int,i=eJ l x->0<=i->ae (.ret,⟨20,[(0,.sl 0 0 l.length),(4,iD i)],BF z l⟩))/\(eJ l x= -1->ae (.exit 0,⟨20,[(0,.sl 0 0 l.length)],BF z l⟩))
def SK(x:aq):List (Nat×En):=[(1,lR x)]
def NH(z:Bool)(l:List Pl):Nat×En:=(0,En.mk 0 (some 0) (Obj.arr (93:TypeId) z (fZ l)))
def DV(z:Bool)(l:List Pl):List (Nat×En):=[NH z l]
def zp(n:Nat):Nat×P:=(0,Zu n)
def Hy(k:Int)(l:List Pl):Bool:=decide (Zb k<qh l)
def Yr(k:Int)(n:Nat):Bool:=decide (k<(↑n:Int))
theorem SL(z:Bool)(l:List Pl)(n:Nat)(x:aq)(k:Int)(ae:PX×S->Prop):(bif Yr k n then ob (mZ k n) (ob (Hy k l) (ob (oV l k) (bif Z5z l k x then ae (PX.ret,S.mk 20 (zp n::Jx k) (DV z l)) else ob (Zd k) (ae (PX.normal,S.mk 20 (zp n::tO::Zi k) (NH z l::SK x)))))) else ae (PX.exit 0,S.mk 20 [zp n] (DV z l)))=(aC [] [] 54 2 (qdM z l n x k)) ae:=by kernel_rfl
def q5(ar:List Pl):P:=P.sl 0 0 (jA ar)
theorem Ys(z:Bool)(l:List Pl)(n:Nat)(x:aq)(ae:P×List (Nat×En)->Prop):(∃(NI:Bool) (ar:List Pl) (a7:aq),S.mk 20 (zp n::tO::ZB) (NH z l::SK x)=S.mk 20 ((0,q5 ar)::tO::ZB) (NH NI ar::SK a7)/\n5 ar/\(∀(i:Int),i=eJ ar a7->(0:Int)<=i->ae (P.d (Zm i),DV NI ar))/\(eJ ar a7=(-1:Int)->ae (QY,DV NI ar)))=(aK [] [(2,ah (aL 54 2) SJ)] 54 [.sl 0 0 n,.d (cb x)] (BF z l)) ae:=by kernel_rfl
def SM:bh:=λps R ae=> ∃z l x,ps=[.sl 0 0 l.length,.d (cb x)]/\R=BF z l/\l.length<=1000000/\ae (iD (eJ l x),BF z l)
abbrev hsH(l:List aq)(x:aq)(k:Int):S:=⟨18,[(0,da l),(3,.ref 0 0 0),(5,iD k)],bxI 0 x⟩
def qdN:S->K (PX×S):=λs ae=> ∃l x,s=hsH l x 0/\l.length<=1000000/\(x∈l->ae (.ret,⟨18,[(0,da l),(4,.d (.bool true))],[]⟩))/\(x∉l->ae (.exit 0,⟨18,[(0,da l)],[]⟩))
def GK:List (Nat×P):=[(4,ZC)]
def vX(l:List aq):Nat×P:=(0,iw l)
def Z5O(l:List aq)(k:Int)(x:aq):Bool:=Hu l k==Prod.fst x&&(Ht l k==fC x&&true)&&(Hs l k==fB x&&true)
theorem qbe(l:List aq)(x:aq)(k:Int)(ae:PX×S->Prop):(bif decide (k<Bs l) then ob (Nq k l) (ob (wR l k) (bif Z5O l k x then ae (PX.ret,S.mk 18 (vX l::GK) []) else ob (Zd k) (ae (PX.normal,S.mk 18 (vX l::dv::Zi k) (Jz x))))) else ae (PX.exit 0,S.mk 18 [vX l] []))=(aC [] [] 58 2 (hsH l x k)) ae:=by kernel_rfl
def mq(ar:List aq):Prop:=gk ar<=1000000
theorem qdO(l:List aq)(x:aq)(ae:P×List (Nat×En)->Prop):(∃(ar:List aq) (a7:aq),S.mk 18 (vX l::dv::ZB) (Jz x)=S.mk 18 (vX ar::dv::ZB) (Jz a7)/\mq ar/\(a7∈ar->ZD ae)/\(¬a7∈ar->Z1 ae))=(aK [] [(2,ah (aL 58 2) qdN)] 58 [da l,.d (cb x)] []) ae:=by kernel_rfl
def JA:bh:=λps R ae=> ∃l x,ps=[da l,.d (cb x)]/\R=[]/\l.length<=1000000/\ae (.d (.bool (decide (x∈l))),[])
theorem GL{α:Type}{f:α->Bool}{l:List α}{i:Nat}{x:α}(h:l[i]?=some x)(hf:f x=true)(hb: ∀y∈l.take i,f y=false):qy f l=(i:Int):=by
 have hi:i<l.length:=(zae.1 h).1;have:l.findIdx? f=some i:=by rw[zbM];refine⟨hi,by rw[(zae.1 h).2];exact hf,λj hj=> ?_⟩;rw[hb _ (List.mem_take_iff_getElem.2 ⟨j,by omega,rfl⟩)];simp
 unfold qy;rw[this]
theorem Ll{α:Type}{f:α->Bool}{l:List α}(h: ∀x∈l,f x=false):qy f l= -1:=by
 have:l.findIdx? f=none:=by rw[zb4];exact h
 unfold qy;rw[this]
theorem rS{α:Type}(f:α->Bool)(l:List α):(∃(i:Nat) (x:α),l[i]?=some x/\f x=true/\qy f l=(i:Int))\/(qy f l= -1/\ ∀x∈l,f x=false):=by
 cases h:l.findIdx? f with
 |some i=>obtain⟨hi,hf,_⟩:=zbM.1 h;exact .inl ⟨i,l[i],zac hi,hf,by unfold qy;rw[h]⟩
 |none=>exact .inr ⟨by unfold qy;rw[h],zb4.1 h⟩
theorem getD_some{α:Type}{l:List α}{k:Nat}(h:k<l.length)(d:α):l[k]?=some (l.getD k d):=by rw[zab,zac h];rfl
section
variable{X:XF}
theorem LD.scan{H:List (FuncId×bh)}{hk:List (Nat×(S->K (PX×S)))}{f id:Nat}{g:S->K (PX×S)}(hu:uniq PR f=true)(hc:b8 (qS f) (bE PR f id)=true)(hH:HD X H)(hl:QI X f hk)
  {A α:Type} (hd:A->Int->S) (oN:A->List α) (d:α) (t:A->α->Bool) (C:A->Prop) (rt:A->Int->S) (ex:A->S)
  (hr: ∀a (k:Int) ae,C a->(oN a).length<=1000000->0<=k->(k<(oN a).length->k.toNat<(oN a).length->(t a ((oN a).getD k.toNat d)=true->ae (.ret,rt a k))->(t a ((oN a).getD k.toNat d)=false->ae (.normal,hd a (k+1)))->aC H hk f id (hd a k) ae))
  (hx: ∀a (k:Int) ae,C a-> ¬k<(oN a).length->ae (.exit 0,ex a)->aC H hk f id (hd a k) ae)
  (hg: ∀s ae,g s ae-> ∃a,s=hd a 0/\C a/\(oN a).length<=1000000/\(∀i:Int,i=qy (t a) (oN a)->0<=i->ae (.ret,rt a i))/\(qy (t a) (oN a)= -1->ae (.exit 0,ex a))):LD X f id (ah (aL f id) g):=
 LD.par hu hc hH hl (A:=A) (B:=Int) hd (λa k=>C a/\(oN a).length<=1000000/\0<=k/\k.toNat<=(oN a).length/\ ∀y∈(oN a).take k.toNat,t a y=false) (λa k=>((oN a).length-k).toNat)
  (λa x=>(∃i:Int,i=qy (t a) (oN a)/\0<=i/\x=(.ret,rt a i))\/(qy (t a) (oN a)= -1/\x=(.exit 0,ex a)))
  (by
   rintro a k ⟨h1,h2,h3,h4,h5⟩;by_cases hk:k<(oN a).length
   ·have dy:k.toNat<(oN a).length:=by omega
    refine hr a k _ h1 h2 h3 hk dy (λht=> .inl ⟨k,?_,h3,rfl⟩) λht=>⟨((oN a).length-(k+1)).toNat,by omega,k+1,rfl,⟨h1,h2,by omega,by omega,λy hy=> ?_⟩,rfl⟩
    ·rw[GL (getD_some dy d) ht h5];omega
    rw[show(k+1).toNat=k.toNat+1 by omega,zbo,getD_some dy d] at hy;rcases zaB.1 hy with hy |hy
    ·exact h5 y hy
    simp at hy;rw[hy];simpa using ht
   refine hx a k _ h1 hk (.inr ⟨Ll λy hy=>h5 y ?_,rfl⟩);rw[zan (by omega)];exact hy)
  (by
   intro s ae h;obtain⟨a,rfl,h1,h2,h3,h4⟩:=hg s ae h;refine⟨a,0,rfl,⟨h1,h2,by simp,by simp,by simp⟩,?_⟩;rintro x (⟨i,h5,h6,rfl⟩| ⟨h5,rfl⟩)
   ·exact h3 i h5 h6
   exact h4 h5)
theorem qdP{l:List It}{i:Nat}(h:i<l.length)(d:It):D.nth (l.map dW) i=dW (l.getD i d):=by rw[aG dW l i h];simp[zab,h]
def it0:It:=((0,0,0),[],false,false)
theorem Lm{α:Type}(f:α->Bool)(l:List α):decide (qy f l>=0)=l.any f:=by
 rcases rS f l with⟨i,x,h1,h2,h3⟩| ⟨h1,h2⟩
 ·rw[h3,zbG.2 ⟨x,zaz h1,h2⟩];simp
 rw[h1];cases h:l.any f with
 |false=>rfl
 |true=>obtain⟨x,hx,hf⟩:=zbG.1 h;rw[h2 x hx] at hf;cases hf
theorem qz(x y:aq):(x.1==y.1&&(x.2.1==y.2.1&&true)&&(x.2.2==y.2.2&&true))=(x==y):=by rw[zbh];obtain⟨a,b,c⟩:=x;obtain⟨d,e,f⟩:=y;simp[and_assoc]
theorem Yt:LD X 54 2 (ah (aL 54 2) qdK):=
 LD.scan (H:=[]) (hk:=[]) (by kernel_rfl) (by kernel_rfl) .nil .nil
  (A:=List Pl×aq) (λa k=>qdJ a.1 a.2 k) (·.1) s7 (λa p=>p.1==a.2) (λ_=>True)
  (λa i=>⟨20,[(0,eC a.1),(4,iD i)],[]⟩) (λa=>⟨20,[(0,eC a.1)],[]⟩)
  (by
   rintro⟨l,x⟩ k ae _ hm h0 hk dy ht hf;dsimp only at*
   (rw[<-qbd];delta fB fD fC fw fy lR mn Jz Zh Zi dP dv Z6 Z5 Zd Zm ml Jx fZ ij tS Zb nf Z5z oV qh BE Lk)
   simp only[zaa];rw[iO dy];refine gh (kY hk) (aP ⟨h0,hk⟩ (ao (ia _) (az (λh=>ht ?_) λh=>ao (gB (by omega) (by omega)) (hf ?_))))
   ·rw[<-qz];exact h
   rw[<-qz];exact h)
  (by
   rintro⟨l,p⟩ k ae _ hk hp;dsimp only at*
   (rw[<-qbd];delta fB fD fC fw fy lR mn Jz Zh Zi dP dv Z6 Z5 Zd Zm ml Jx fZ ij tS Zb nf Z5z oV qh BE Lk)
   simp only[zaa];exact jo (me hk) hp)
  (by rintro s ae ⟨l,p,rfl,hm,h1,h2⟩;exact⟨(l,p),rfl,trivial,hm,h1,h2⟩)
theorem qbf:FD X 54 SI:=FD.mk (H:=[]) (hk:=[(2,ah (aL 54 2) qdK)]) (by kernel_rfl) .nil (.cons Yt .nil) (by
 intro ps R ae hh;obtain⟨l,x,rfl,rfl,hm,hp⟩:=hh
 (rw[<-qdL];delta QY r7 Zm jA n5 fB fD fC fw fy lR mn Jz Z3 ZB dP dv fZ ij tS)
 refine⟨l,x,rfl,hm,λi hi h0=> ?_,λh=> ?_⟩
 ·rw[hi];exact hp
 rw[h] at hp;exact hp)
theorem SN:LD X 54 2 (ah (aL 54 2) SJ):=
 LD.scan (H:=[]) (hk:=[]) (by kernel_rfl) (by kernel_rfl) .nil .nil
  (A:=List Pl×aq×Bool) (λa k=>qdM a.2.2 a.1 a.1.length a.2.1 k) (·.1) s7 (λa p=>p.1==a.2.1) (λ_=>True)
  (λa i=>⟨20,[(0,.sl 0 0 a.1.length),(4,iD i)],BF a.2.2 a.1⟩) (λa=>⟨20,[(0,.sl 0 0 a.1.length)],BF a.2.2 a.1⟩)
  (by
   rintro⟨l,x,z⟩ k ae _ hm h0 hk dy ht hf;dsimp only at*
   (rw[<-SL];delta fB fD fC fw fy lR SK fZ NH Zh Zi tN tO Z6 Z5 Zd DV Zm ml Jx Zu zp Zb nf Z5z oV qh Hy mZ Yr)
   rw[iO dy];refine gh (kY hk) (aP ⟨h0,hk⟩ (ao (kY (by rw[zaa];exact dy)) (ao (ia _) (az (λh=>ht ?_) λh=>ao (gB (by omega) (by omega)) (hf ?_)))))
   ·rw[<-qz];exact h
   rw[<-qz];exact h)
  (by
   rintro⟨l,p,z⟩ k ae _ hk hp;dsimp only at*
   (rw[<-SL];delta fB fD fC fw fy lR SK fZ NH Zh Zi tN tO Z6 Z5 Zd DV Zm ml Jx Zu zp Zb nf Z5z oV qh Hy mZ Yr)
   exact jo (me hk) hp)
  (by rintro s ae ⟨z,l,p,rfl,hm,h1,h2⟩;exact⟨(l,p,z),rfl,trivial,hm,h1,h2⟩)
theorem SO:FD X 54 SM:=FD.mk (H:=[]) (hk:=[(2,ah (aL 54 2) SJ)]) (by kernel_rfl) .nil (.cons SN .nil) (by
 intro ps R ae hh;obtain⟨z,l,x,rfl,rfl,hm,hp⟩:=hh
 (rw[<-Ys];delta QY fZ NH DV Zm jA n5 q5 fB fD fC fw fy lR SK Z3 ZB tN tO Zu zp)
 refine⟨z,l,x,rfl,hm,λi hi h0=> ?_,λh=> ?_⟩
 ·rw[hi];exact hp
 rw[h] at hp;exact hp)
theorem Ln{α:Type}{f:α->Bool}{l:List α}:0<=qy f l↔ ∃x∈l,f x=true:=by
 rcases rS f l with⟨i,x,h1,h2,h3⟩| ⟨h1,h2⟩
 ·rw[h3];exact⟨λ_=>⟨x,zaz h1,h2⟩,λ_=>by omega⟩
 rw[h1];exact⟨λh=>by omega,λ⟨x,hx,hf⟩=>by rw[h2 x hx] at hf;cases hf⟩
theorem Yu:LD X 58 2 (ah (aL 58 2) qdN):=
 LD.scan (H:=[]) (hk:=[]) (by kernel_rfl) (by kernel_rfl) .nil .nil
  (A:=List aq×aq) (λa k=>hsH a.1 a.2 k) (·.1) (0,0,0) (λa p=>p==a.2) (λ_=>True)
  (λa i=>⟨18,[(0,da a.1),(4,.d (.bool true))],[]⟩) (λa=>⟨18,[(0,da a.1)],[]⟩)
  (by
   rintro⟨l,x⟩ k ae _ hm h0 hk dy ht hf;dsimp only at*
   (rw[<-qbe];delta fB fD fC fw fy lR mn Jz Zh Zi dP dv Z6 Z5 Zd ZC GK fM iw vX Zb Hs Ht Hu Z5O wR oQ Bs Nq)
   simp only[zaa];rw[qdh dy];refine gh (kY hk) (aP ⟨h0,hk⟩ (ao (mQ _) (az (λh=>ht ?_) λh=>ao (gB (by omega) (by omega)) (hf ?_))))
   ·rw[<-qz];exact h
   rw[<-qz];exact h)
  (by
   rintro⟨l,p⟩ k ae _ hk hp;dsimp only at*
   (rw[<-qbe];delta fB fD fC fw fy lR mn Jz Zh Zi dP dv Z6 Z5 Zd ZC GK fM iw vX Zb Hs Ht Hu Z5O wR oQ Bs Nq)
   simp only[zaa];exact jo (me hk) hp)
  (by
   rintro s ae ⟨l,x,rfl,hm,h1,h2⟩;refine⟨(l,x),rfl,trivial,hm,λi hi h0=>h1 ?_,λh=>h2 λhx=> ?_⟩
   ·rw[hi] at h0;obtain⟨y,hy,he⟩:=Ln.1 h0;have:y=x:=by simpa using he
    exact this▸hy
   have:0<=qy (λp=>p==x) l:=Ln.2 ⟨x,hx,by simp⟩;dsimp only at h;omega)
theorem SP:FD X 58 JA:=FD.mk (H:=[]) (hk:=[(2,ah (aL 58 2) qdN)]) (by kernel_rfl) .nil (.cons Yu .nil) (by
 intro ps R ae hh;obtain⟨l,x,rfl,rfl,hm,hp⟩:=hh
 (rw[<-qdO];delta Z0 Z1 ZC ZD gk mq fB fD fC fw fy lR mn Jz Z3 ZB dP dv fM iw vX)
 exact⟨l,x,rfl,hm,λh=>yD hp (by simp[h]),λh=>yD hp (by simp[h])⟩)
end
def zq(l:List Pl)(ar:List Pl)(a7:aq):D:=D.nth (fZ l) (Int.toNat (eJ ar a7))
def Z5Y(l:List Pl)(ar:List Pl)(a7:aq):D:=D.int .i64 (D.aj (D.ax (zq l ar a7) 5))
def Z5X(l:List Pl)(ar:List Pl)(a7:aq):D:=D.int .i64 (D.aj (D.ax (zq l ar a7) 4))
def Z5W(l:List Pl)(ar:List Pl)(a7:aq):D:=D.int .i64 (D.aj (D.ax (zq l ar a7) 3))
def Z5Z(l:List Pl)(ar:List Pl)(a7:aq):Nat×En:=(0,En.mk 0 none (Obj.box (50:TypeId) [P.d (Z5W l ar a7),P.d (Z5X l ar a7),P.d (Z5Y l ar a7)]))
def Z5U(ar:List Pl)(a7:aq)(l:List Pl):Bool:=decide ((0:Int)<=eJ ar a7/\eJ ar a7<(↑(qh l):Int))
def Z5T(ar:List Pl)(a7:aq):Bool:=decide (eJ ar a7<(0:Int))
def Z5S(x:aq)(y:aq):Bool:=Prod.fst x==Prod.fst y&&(fC x==fC y&&true)&&(fB x==fB y&&true)
abbrev wiL(z:Bool)(l:List Pl)(n:Nat)(x y:aq)(k:Int):S:=⟨28,[(0,.sl 0 0 n),(4,.ref 1 0 0),(5,.ref 2 0 0),(7,iD k)],BF z l++bxI 1 x++bxI 2 y⟩
def qdQ:S->K (PX×S):=λs ae=> ∃z l x y,s=wiL z l l.length x y 0/\l.length<=1000000/\(∀b,b=within l x y->ae (.ret,⟨28,[(0,.sl 0 0 l.length),(6,.d (.bool b))],BF z l⟩))/\(within l x y=true->ae (.exit 0,⟨28,[(0,.sl 0 0 l.length)],BF z l⟩))
def Yv(y:aq):List (Nat×En):=[(2,lR y)]
def DW(ar:List Pl)(a7:aq):D:=D.nth (fZ ar) (Int.toNat (eJ ar a7))
def Z61(ar:List Pl)(a7:aq):Bool:=decide (Int.toNat (eJ ar a7)<qh ar)
theorem qgu(z:Bool)(l:List Pl)(n:Nat)(x y:aq)(k:Int)(ae:PX×S->Prop):(bif decide (k<=(↑n:Int)) then bif Z5S x y then ae (PX.ret,S.mk 28 [zp n,(6,ZC)] (DV z l)) else∃(NI:Bool) (ar:List Pl) (a7:aq),Zu n::iP x=q5 ar::iP a7/\DV z l=DV NI ar/\n5 ar/\bif Z5T ar a7 then ae (PX.ret,S.mk 28 (zp n::Z4a) (DV NI ar)) else ob (decide ((0:Int)<=eJ ar a7/\eJ ar a7<(↑n:Int))) (ob (Z61 ar a7) (ob (cT PR (93:TypeId) (DW ar a7)) (ob (Zd k) (ae (PX.normal,S.mk 28 (zp n::(4,tN)::(5,P.ref 2 0 0)::qw k) (NH NI ar::(1,En.mk 0 none (Obj.box (50:TypeId) [P.d (D.int .i64 (D.aj (D.ax (DW ar a7) 3))),P.d (D.int .i64 (D.aj (D.ax (DW ar a7) 4))),P.d (D.int .i64 (D.aj (D.ax (DW ar a7) 5)))]))::Yv y)))))) else ae (PX.exit 0,S.mk 28 [zp n] (DV z l)))=(aC [(54,SM)] [] 53 2 (wiL z l n x y k)) ae:=by kernel_rfl
def Z64:List (Nat×P):=(4,tN)::(5,P.ref 2 0 0)::uG
theorem qdR(z:Bool)(l:List Pl)(n:Nat)(x y:aq)(ae:P×List (Nat×En)->Prop):(∃(NI:Bool) (ar:List Pl) (a7:aq) (SQ:aq),S.mk 28 (zp n::Z64) (NH z l::(1,lR x)::Yv y)=S.mk 28 ((0,q5 ar)::Z64) (NH NI ar::(1,lR a7)::Yv SQ)/\n5 ar/\(∀(b:Bool),b=within ar a7 SQ->ae (fX b,DV NI ar))/\(within ar a7 SQ=true->ae (ZC,DV NI ar)))=(aK [] [(2,ah (aL 53 2) qdQ)] 53 [.sl 0 0 n,.d (cb x),.d (cb y)] (BF z l)) ae:=by kernel_rfl
def qdS:bh:=λps R ae=> ∃z l x y,ps=[.sl 0 0 l.length,.d (cb x),.d (cb y)]/\R=BF z l/\l.length<=1000000/\ ∀b,b=within l x y->ae (.d (.bool b),BF z l)
abbrev qdT(l:List Pl)(x:aq)(k:Int):S:=⟨39,[(0,eC l),(3,.ref 0 0 0),(5,iD k)],bxI 0 x⟩
def gRo:S->K (PX×S):=λs ae=> ∃l x,s=qdT l x 0/\l.length<=1000000/\(∀b,b=lb l x->ae (.ret,⟨39,[(4,.d (.bool b))],[]⟩))/\(lb l x=false->ae (.exit 0,⟨39,[],[]⟩))
def Z65(ae:PX×S->Prop):Prop:=ae (PX.ret,S.mk 39 Zc [])
theorem qgv(l:List Pl)(x:aq)(k:Int)(ae:PX×S->Prop):(bif decide (k<=(↑(qh l):Int)) then∃(ar:List Pl) (a7:aq),ij l::iP x=ij ar::iP a7/\Zq/\n5 ar/\bif Z5T ar a7 then Z65 ae else ob (Z5U ar a7 l) (ob (cT PR (93:TypeId) (zq l ar a7)) (bif D.aj (D.ax (zq l ar a7) 3)==(0:Int)&&(D.aj (D.ax (zq l ar a7) 4)==(0:Int)&&true)&&(D.aj (D.ax (zq l ar a7) 5)==(0:Int)&&true) then ae (PX.ret,S.mk 39 GK []) else∃(jz:List Pl) (x:aq),[ij l,P.d (D.agg [Z5W l ar a7,Z5X l ar a7,Z5Y l ar a7])]=ij jz::iP x/\Zq/\n5 jz/\bif Z5T jz x then Z65 ae else ob (Z5U jz x l) (ob (cT PR (93:TypeId) (zq l jz x)) (bif !D.eY (D.ax (zq l jz x) 7) then Z65 ae else ob (Zd k) (ae (PX.normal,S.mk 39 (tS l::dv::Zi k) [Z5Z l ar a7])))))) else ae (PX.exit 0,S.mk 39 [] []))=(aC [(54,SI)] [] 83 2 (qdT l x k)) ae:=by kernel_rfl
theorem qgw(l:List Pl)(x:aq)(ae:P×List (Nat×En)->Prop):(∃(ar:List Pl) (a7:aq),S.mk 39 (tS l::dv::ZB) (Jz x)=S.mk 39 (tS ar::dv::ZB) (Jz a7)/\n5 ar/\(∀(b:Bool),b=lb ar a7->ae (fX b,[]))/\(lb ar a7=false->Z1 ae))=(aK [] [(2,ah (aL 83 2) gRo)] 83 [eC l,.d (cb x)] []) ae:=by kernel_rfl
def qdU:bh:=λps R ae=> ∃l x,ps=[eC l,.d (cb x)]/\R=[]/\l.length<=1000000/\ ∀b,b=lb l x->ae (.d (.bool b),[])
def GM:bh:=λps R ae=> ∃l x,ps=[.sl 0 0 l.length,.d (cb x)]/\R=BF false l/\l.length<=1000000/\ae (iD (eJ l x),BF false l)
abbrev riH(l o:List Pl)(n:Nat)(k:Int):S:=⟨43,[(0,eC l),(3,.sl 0 0 n),(4,iD k)],[(0,⟨0,none,.arr 93 false (o.map eV)⟩)]⟩
def gRi:S->K (PX×S):=λs ae=> ∃l,s=riH l [] 0 0/\l.length<=1000000/\ae (.exit 0,⟨43,[(3,.sl 0 0 (ly l).length)],[(0,⟨0,none,.arr 93 false ((ly l).map eV)⟩)]⟩)
def Hz(ar:List Pl):En:=En.mk 0 none (Obj.arr (93:TypeId) false (fZ ar))
def tB(ar:List Pl):List (Nat×En):=[(0,Hz ar)]
def Z6f(k:Int)(ae:PX×S->Prop)(l:List Pl)(n:Nat)(ar:List Pl):Prop:=ob (Zd k) (ae (PX.normal,S.mk 43 (tS l::(3,Zu n)::sa k) (tB ar)))
def JB(l:List Pl)(k:Int):D:=D.int .i64 (D.aj (D.ax (nf l k) 2))
def JC(l:List Pl)(k:Int):D:=D.int .i64 (D.aj (D.ax (nf l k) 1))
def JD(l:List Pl)(k:Int):D:=D.int .i64 (D.aj (D.ax (nf l k) 0))
def OG(l:List Pl)(k:Int):List D:=[JD l k,JC l k,JB l k,D.int .i64 (D.aj (D.ax (nf l k) 3)),D.int .i64 (D.aj (D.ax (nf l k) 4)),D.int .i64 (D.aj (D.ax (nf l k) 5)),D.str (D.cm (D.ax (nf l k) 6)),D.bool (D.eY (D.ax (nf l k) 7))]
def Z6c(n:Nat)(ar:List Pl)(l:List Pl)(k:Int):En:=En.mk 0 none (Obj.arr (93:TypeId) false (List.take n (fZ ar)++[D.agg (OG l k)]))
def Z6b(n:Nat)(l:List Pl)(k:Int):Nat:=n+List.length [D.agg (OG l k)]
def Yw(ar:List Pl):List (Nat×En):=[(0,En.mk 0 (some 0) (Obj.arr (93:TypeId) false (fZ ar)))]
def JE(l:List Pl)(k:Int):P:=P.d (D.agg [JD l k,JC l k,JB l k])
theorem qig(l o:List Pl)(n:Nat)(k:Int)(ae:PX×S->Prop):(bif Lk k l then ob (BE k l) (ob (oV l k) (∃(t:Int) (r:Int) (i:Int),[JE l k]=ZM t r i/\Zq/\bif aY t r i then ob (BE k l) (ob (oV l k) (∃(s:List UInt8),[P.d (D.str (D.cm (D.ax (nf l k) 6)))]=ZW s/\Zq/\bif bR s then ob (BE k l) (ob (oV l k) (∃(ar:List Pl) (x:aq),[Zu n,JE l k]=q5 ar::iP x/\Yw o=Yw ar/\n5 ar/\bif Z5T ar x then ob (BE k l) (ob (oV l k) (ob (Nat.ble n (qh ar)&&aJ (Z6b n l k) 72) (ob (Zd k) (ae (PX.normal,S.mk 43 (tS l::(3,P.sl 0 0 (Z6b n l k))::sa k) [(0,Z6c n ar l k)]))))) else Z6f k ae l n ar)) else Z6f k ae l n o)) else Z6f k ae l n o)) else ae (PX.exit 0,S.mk 43 [(3,Zu n)] (tB o)))=(aC [(68,eI),(42,mN),(54,GM)] [] 82 3 (riH l o n k)) ae:=by kernel_rfl
def Z6j(ar:List Pl):Nat×En:=(0,En.mk 0 none (Obj.arr (93:TypeId) false (List.map eV (ly ar))))
def DX:En:=En.mk 0 none (Obj.arr (93:TypeId) false [])
def Z6i(ar:List Pl):S:=S.mk 43 (tS ar::Sw) [(0,DX)]
theorem qgx(l:List Pl)(ae:P×List (Nat×En)->Prop):(∃(ar:List Pl),Z6i l=Z6i ar/\n5 ar/\ae (P.sl 0 0 (List.length (ly ar)),[Z6j ar]))=(aK [] [(3,ah (aL 82 3) gRi)] 82 [eC l] []) ae:=by kernel_rfl
def hRi:bh:=λps R ae=> ∃l,ps=[eC l]/\R=[]/\l.length<=1000000/\ae (.sl 0 0 (ly l).length,[(0,⟨0,none,.arr 93 false ((ly l).map eV)⟩)])
abbrev bxP(n:Nat)(p:Pl):List (Nat×En):=[(n,⟨0,none,.box 93 [.d (.int .i64 p.1.1),.d (.int .i64 p.1.2.1),.d (.int .i64 p.1.2.2),.d (.int .i64 p.2.1.1),.d (.int .i64 p.2.1.2.1),.d (.int .i64 p.2.1.2.2),.d (.str p.2.2.1),.d (.bool p.2.2.2)]⟩)]
abbrev naH(l:List Pl)(p:Pl)(k:Int):S:=⟨54,[(0,eC l),(3,.ref 0 0 0),(5,iD k)],bxP 0 p⟩
def OH(p q:Pl):Bool:=decide (q.2.1=p.2.1)&&(q.2.2.1==p.2.2.1)&&lz q.1 p.1
def gNa:S->K (PX×S):=λs ae=> ∃l p,s=naH l p 0/\l.length<=1000000/\(l.any (OH p)=true->ae (.ret,⟨54,[(3,.ref 0 0 0),(4,sD (k9 p.2.2.1 p.1.1 p.1.2.1 p.1.2.2).1)],bxP 0 p⟩))/\(l.any (OH p)=false->ae (.exit 0,⟨54,[(3,.ref 0 0 0)],bxP 0 p⟩))
def OI(p:Pl):List UInt8:=Prod.fst (Prod.snd (Prod.snd p))
def SR(p:Pl):Int:=Prod.snd (Prod.snd (Prod.fst (Prod.snd p)))
def SS(p:Pl):Int:=Prod.fst (Prod.snd (Prod.fst (Prod.snd p)))
def SU(p:Pl):Int:=Prod.fst (Prod.fst (Prod.snd p))
def Yx(p:Pl):D:=D.int .i64 (Prod.snd (Prod.snd (Prod.fst p)))
def Yy(p:Pl):D:=D.int .i64 (Prod.fst (Prod.snd (Prod.fst p)))
def Yz(p:Pl):D:=D.int .i64 (Prod.fst (Prod.fst p))
def SV(p:Pl):List (Nat×En):=[(0,En.mk 0 none (Obj.box (93:TypeId) [P.d (Yz p),P.d (Yy p),P.d (Yx p),P.d (D.int .i64 (SU p)),P.d (D.int .i64 (SS p)),P.d (D.int .i64 (SR p)),P.d (D.str (OI p)),P.d (D.bool (Prod.snd (Prod.snd (Prod.snd p))))]))]
def Z6v(k:Int)(ae:PX×S->Prop)(l:List Pl)(p:Pl):Prop:=ob (Zd k) (ae (PX.normal,S.mk 54 (tS l::dv::Zi k) (SV p)))
def SX(t:Int)(r:Int)(i:Int)(t':Int)(r':Int)(i':Int):Bool:=decide (qX t r i t' r' i'<(0:Int))
def Z6u(p:Pl):List P:=[P.d (D.agg [Yz p,Yy p,Yx p])]
theorem qgy(l:List Pl)(p:Pl)(k:Int)(ae:PX×S->Prop):(bif Lk k l then ob (BE k l) (ob (oV l k) (bif D.aj (D.ax (nf l k) 3)==SU p&&(D.aj (D.ax (nf l k) 4)==SS p&&true)&&(D.aj (D.ax (nf l k) 5)==SR p&&true) then ob (BE k l) (ob (oV l k) (bif D.cm (D.ax (nf l k) 6)==OI p then ob (BE k l) (ob (oV l k) (∃(t:Int) (r:Int) (i:Int) (t':Int) (r':Int) (i':Int),JE l k::Z6u p=P.d (D.agg (Zm t::Zm r::Zx i))::ZM t' r' i'/\Zq/\bif SX t r i t' r' i' then∃(s:List UInt8) (t:Int) (r:Int) (i:Int),P.d (D.str (OI p))::Z6u p=ZV s::ZM t r i/\Zq/\ae (PX.ret,S.mk 54 [dv,(4,P.d (D.str (Prod.fst (k9 s t r i))))] (SV p)) else Z6v k ae l p)) else Z6v k ae l p)) else Z6v k ae l p)) else ae (PX.exit 0,S.mk 54 [dv] (SV p)))=(aC [(55,iN),(101,I3)] [] 84 2 (naH l p k)) ae:=by kernel_rfl
theorem qgz(l:List Pl)(p:Pl)(ae:P×List (Nat×En)->Prop):(∃(ar:List Pl) (lr:Pl),S.mk 54 (tS l::dv::ZB) (SV p)=S.mk 54 (tS ar::dv::ZB) (SV lr)/\n5 ar/\(List.any ar (OH lr)=true->ae (P.d (D.str (Prod.fst (k9 (OI lr) (Prod.fst (Prod.fst lr)) (Prod.fst (Prod.snd (Prod.fst lr))) (Prod.snd (Prod.snd (Prod.fst lr)))))),[]))/\(List.any ar (OH lr)=false->ae (P.d (D.str (OI lr)),[])))=(aK [] [(2,ah (aL 84 2) gNa)] 84 [eC l,.d (eV p)] []) ae:=by kernel_rfl
def hNa:bh:=λps R ae=> ∃l p,ps=[eC l,.d (eV p)]/\R=[]/\l.length<=1000000/\ ∀s,s=DU l p->ae (sD s,[])
abbrev paH(l:List Pl)(p:Pl)(s:List UInt8):S:=⟨28,[(0,eC l),(3,.ref 0 0 0),(5,sD s)],bxP 0 p⟩
inductive SY(T:List Pl)(V:List aq)(x:aq)(p:Pl):Prop
 |mk (h1:marked T V x=true) (h2:dz T x=some p)
def gPa:S->K (PX×S):=λs ae=> ∃T V x p w,s=paH (aQ T V) p ([47]++DU (aQ T V) p)/\(T.length<=1000/\Rt T/\SY T V x p/\Up T x w)/\ae (.exit 0,⟨28,[(5,sD (cE (w.reverse.map (q4 T V))))],[]⟩)
def Z6w(p:Pl):List P:=[P.d (D.agg [Yz p,Yy p,Yx p,D.int .i64 (SU p),D.int .i64 (SS p),D.int .i64 (SR p),D.str (OI p),D.bool (Prod.snd (Prod.snd (Prod.snd p)))])]
theorem qih(l:List Pl)(p:Pl)(s:List UInt8)(ae:PX×S->Prop):(bif !(SU p==(0:Int)&&(SS p==(0:Int)&&true)&&(SR p==(0:Int)&&true)) then∃(ar:List Pl) (x:aq),[ij l,P.d (D.agg [D.int .i64 (SU p),D.int .i64 (SS p),D.int .i64 (SR p)])]=ij ar::iP x/\Zq/\n5 ar/\ob (Z5U ar x l) (ob (cT PR (93:TypeId) (zq l ar x)) (∃(jz:List Pl) (p:Pl),[ij l,P.d (D.agg [D.int .i64 (D.aj (D.ax (zq l ar x) 0)),D.int .i64 (D.aj (D.ax (zq l ar x) 1)),D.int .i64 (D.aj (D.ax (zq l ar x) 2)),Z5W l ar x,Z5X l ar x,Z5Y l ar x,D.str (D.cm (D.ax (zq l ar x) 6)),D.bool (D.eY (D.ax (zq l ar x) 7))])]=ij jz::Z6w p/\Zq/\n5 jz/\ ∀(bF:List UInt8),bF=DU jz p->ob (decide (1+ZX bF<=Zr)) (ob (decide (List.length (Rj++bF)+ZX s<=Zr)) (ae (PX.normal,S.mk 28 [tS l,dv,(5,P.d (D.str (Rj++bF++s)))] [(0,En.mk 0 none (Obj.box (93:TypeId) [P.d (D.int .i64 (D.aj (D.ax (zq l ar x) 0))),P.d (D.int .i64 (D.aj (D.ax (zq l ar x) 1))),P.d (D.int .i64 (D.aj (D.ax (zq l ar x) 2))),P.d (Z5W l ar x),P.d (Z5X l ar x),P.d (Z5Y l ar x),P.d (D.str (D.cm (D.ax (zq l ar x) 6))),P.d (D.bool (D.eY (D.ax (zq l ar x) 7)))]))]))))) else ae (PX.exit 0,S.mk 28 [XL s] []))=(aC [(84,hNa),(54,SI)] [] 57 2 (paH l p s)) ae:=by kernel_rfl
def DY(T:List Pl):Prop:=jA T<=1000
theorem qgA(l:List Pl)(p:Pl)(ae:P×List (Nat×En)->Prop):(∃(ar:List Pl) (lr:Pl),ij l::Z6w p=ij ar::Z6w lr/\Zq/\n5 ar/\ ∀(s:List UInt8),s=DU ar lr->ob (decide (1+ZX s<=Zr)) (∃(T:List Pl) (V:List aq) (x:aq) (p_2:Pl) (w:List aq),S.mk 28 [tS l,dv,(5,P.d (D.str (Rj++s)))] (SV p)=S.mk 28 [(0,P.d (D.sl 8 (List.map eV (aQ T V)))),dv,(5,P.d (D.str (Rj++DU (aQ T V) p_2)))] (SV p_2)/\(DY T/\Rt T/\SY T V x p_2/\Up T x w)/\ae (P.d (D.str (cE (List.map (q4 T V) (List.reverse w)))),[])))=(aK [(84,hNa)] [(2,ah (aL 57 2) gPa)] 57 [eC l,.d (eV p)] []) ae:=by kernel_rfl
def hPa:bh:=λps R ae=> ∃T V p,ps=[eC (aQ T V),.d (eV p)]/\R=[]/\(T.length<=1000/\Rt T/\p∈aQ T V)/\ae (sD (oD T V p.1),[])
theorem qi{l:List Pl}{x:aq}(h:dz l x=none):eJ l x= -1:=by refine Ll λp hp=> ?_;unfold dz at h;simpa using List.find?_eq_none.1 h p hp
theorem mV{l:List Pl}{x:aq}{p:Pl}(h:dz l x=some p): ∃i:Nat,eJ l x=(i:Int)/\i<l.length/\l.getD i s7=p:=by
 unfold dz at h;obtain⟨h1,i,hi,h2,h3⟩:=List.find?_eq_some_iff_getElem.1 h;refine⟨i,GL (x:=p) (by rw[zac hi,h2]) h1 λy hy=> ?_,hi,?_⟩
 ·obtain⟨j,hj,rfl⟩:=zaN hy;rw[zcv];rw[zat] at hj;simpa using h3 j (by omega)
 rw[zab,zac hi];exact h2
section
variable{X:XF}
theorem qdV{x y:aq}(h:(x.1==y.1&&(x.2.1==y.2.1&&true)&&(x.2.2==y.2.2&&true))=true):x=y:=by rw[qz] at h;simpa using h
theorem qdW{x y:aq}(h:(x.1==y.1&&(x.2.1==y.2.1&&true)&&(x.2.2==y.2.2&&true))=false):x≠y:=by rw[qz] at h;simpa using h
theorem YA:LD X 53 2 (ah (aL 53 2) qdQ):=LD.par (H:=[(54,SM)]) (hk:=[]) (by kernel_rfl) (by kernel_rfl) (.cons SO .nil) .nil
 (A:=List Pl×aq×aq×Bool) (B:=aq×Int) (λa b=>wiL a.2.2.2 a.1 a.1.length b.1 a.2.2.1 b.2)
 (λa b=>a.1.length<=1000000/\0<=b.2/\b.2<=a.1.length+1/\lO a.1 (a.1.length+1-b.2.toNat) b.1 a.2.2.1=within a.1 a.2.1 a.2.2.1)
 (λa b=>a.1.length+1-b.2.toNat)
 (λa r=>(r=(.ret,⟨28,[(0,.sl 0 0 a.1.length),(6,.d (.bool (within a.1 a.2.1 a.2.2.1)))],BF a.2.2.2 a.1⟩))\/(within a.1 a.2.1 a.2.2.1=true/\r=(.exit 0,⟨28,[(0,.sl 0 0 a.1.length)],BF a.2.2.2 a.1⟩)))
 (by
  rintro⟨l,x0,y,z⟩ ⟨x,k⟩ ⟨hm,h0,hk,hw⟩;dsimp only at*
  (rw[<-qgu];delta fB fD fC fw fy lR Yv fZ NH Zh qw tN Z6 Z5 Zd DW qh Z61 Z0 Z4a Z5T jA n5 q5 nc iP Zu DV ZC zp Z5S)
  refine a8 (λh=> ?_) λh=> ?_
  ·obtain⟨n,hn⟩: ∃n,l.length+1-k.toNat=n+1:=⟨l.length-k.toNat,by omega⟩
   rw[hn] at hw;simp only[lO] at hw;refine az (λhe=> ?_) λhe=>⟨z,l,x,rfl,rfl,hm,?_⟩
   ·rw[zaq (qdV he)] at hw;left;rw[<-hw]
   rw[zap (qdW he)] at hw;cases hp:dz l x with
   |none=>rw[hp] at hw;rw[qi hp];refine gh (kY (by decide)) (.inl ?_);simp only at hw;rw[<-hw]
   |some p=>rw[hp] at hw;obtain⟨i,hi,cj,hip⟩:=mV hp;rw[hi];simp only[zbc];rw[iO cj,hip];refine jo (me (by omega)) (aP ⟨by omega,by omega⟩ (ao (kY (by rw[zaa];exact cj)) (ao (ia p) (ao (gB (by omega) (by omega)) ⟨l.length+1-(k+1).toNat,by omega,(p.2.1,k+1),rfl,⟨hm,by simp only;omega,by simp only;omega,?_⟩,rfl⟩))));simp only;rw[show l.length+1-(k+1).toNat=n by omega];exact hw
  have:l.length+1-k.toNat=0:=by omega
  rw[this] at hw;exact .inr ⟨hw.symm,rfl⟩)
 (by
  rintro s ae ⟨z,l,x,y,rfl,hm,h1,h2⟩;refine⟨(l,x,y,z),(x,0),rfl,⟨hm,by simp,by simp only;omega,rfl⟩,?_⟩;rintro r (rfl | ⟨h3,rfl⟩)
  ·exact h1 _ rfl
  exact h2 h3)
theorem qbg:FD X 53 qdS:=FD.mk (H:=[]) (hk:=[(2,ah (aL 53 2) qdQ)]) (by kernel_rfl) .nil (.cons YA .nil) (by
 intro ps R ae hh;obtain⟨z,l,x,y,rfl,rfl,hm,hp⟩:=hh
 (rw[<-qdR];delta ZC fZ NH DV fX jA n5 q5 fB fD fC fw fy lR Yv Z3 uG tN Z64 Zu zp)
 exact⟨z,l,x,y,rfl,hm,λb hb=>hp b hb,λh=>hp true h.symm⟩)
theorem qdX:LD X 83 2 (ah (aL 83 2) gRo):=LD.par (H:=[(54,SI)]) (hk:=[]) (by kernel_rfl) (by kernel_rfl) (.cons qbf .nil) .nil
 (A:=List Pl×aq) (B:=aq×Int) (λa b=>qdT a.1 b.1 b.2)
 (λa b=>a.1.length<=1000000/\0<=b.2/\b.2<=a.1.length+1/\s9 a.1 (a.1.length+1-b.2.toNat) b.1=lb a.1 a.2)
 (λa b=>a.1.length+1-b.2.toNat)
 (λa r=>(r=(.ret,⟨39,[(4,.d (.bool (lb a.1 a.2)))],[]⟩))\/(lb a.1 a.2=false/\r=(.exit 0,⟨39,[],[]⟩)))
 (by
  rintro⟨l,x0⟩ ⟨x,k⟩ ⟨hm,h0,hk,hw⟩;dsimp only at*
  (rw[<-qgv];delta fZ zq Z5Y Z5X Z5W Z5Z Zh Zi dP dv ij tS Z6 Z5 Zd ZC GK qh Z5U Z0 Zc Z65 Z5T jA n5 Zq fB fD fC fw fy nc iP)
  simp only[zaa];refine a8 (λh=> ?_) λh=> ?_
  ·obtain⟨n,hn⟩: ∃n,l.length+1-k.toNat=n+1:=⟨l.length-k.toNat,by omega⟩
   rw[hn] at hw;simp only[s9] at hw;refine⟨l,x,rfl,rfl,hm,?_⟩;cases hp:dz l x with
   |none=>rw[hp] at hw;rw[qi hp];refine gh (kY (by decide)) (.inl ?_);simp only at hw;rw[<-hw]
   |some p=>
    rw[hp] at hw;simp only at hw;obtain⟨i,hi,cj,hip⟩:=mV hp;rw[hi];simp only[zbc];rw[iO cj,hip];refine jo (me (by omega)) (aP ⟨by omega,by omega⟩ (ao (ia p) (az (λhe=> ?_) λhe=>⟨l,p.2.1,rfl,rfl,hm,?_⟩)))
    ·rw[zaq (qdV (y:=aD) he)] at hw;left;rw[<-hw]
    rw[zap (qdW (y:=aD) he)] at hw;cases hq:dz l p.2.1 with
    |none=>rw[hq] at hw;rw[qi hq];refine gh (kY (by decide)) (.inl ?_);simp only at hw;rw[<-hw]
    |some q=>
     rw[hq] at hw;simp only at hw;obtain⟨j,hj,Ez,hjq⟩:=mV hq;rw[hj];simp only[zbc];rw[iO Ez,hjq];refine jo (me (by omega)) (aP ⟨by omega,by omega⟩ (ao (ia q) (az (λhd=> ?_) λhd=>ao (gB (by omega) (by omega)) ⟨l.length+1-(k+1).toNat,by omega,(p.2.1,k+1),rfl,⟨hm,by simp only;omega,by simp only;omega,?_⟩,rfl⟩)))
     ·have Ws:(!q.2.2.2)=true:=hd;rw[zaq (by simpa using Ws)] at hw;left;rw[<-hw]
     have Ws:(!q.2.2.2)=false:=hd;rw[zap (by simpa using Ws)] at hw;simp only;rw[show l.length+1-(k+1).toNat=n by omega];exact hw
  have:l.length+1-k.toNat=0:=by omega
  rw[this] at hw;exact .inr ⟨hw.symm,rfl⟩)
 (by
  rintro s ae ⟨l,x,rfl,hm,h1,h2⟩;refine⟨(l,x),(x,0),rfl,⟨hm,by simp,by simp only;omega,rfl⟩,?_⟩;rintro r (rfl | ⟨h3,rfl⟩)
  ·exact h1 _ rfl
  exact h2 h3)
theorem qgB:FD X 83 qdU:=FD.mk (H:=[]) (hk:=[(2,ah (aL 83 2) gRo)]) (by kernel_rfl) .nil (.cons qdX .nil) (by
 intro ps R ae hh;obtain⟨l,x,rfl,rfl,hm,hp⟩:=hh
 (rw[<-qgw];delta Z0 Z1 fX jA n5 fB fD fC fw fy lR mn Jz Z3 ZB dP dv fZ ij tS)
 exact⟨l,x,rfl,hm,λb hb=>hp b hb,λh=>hp false h.symm⟩)
theorem SZ:FD X 54 GM:=SO.weaken λps R ae h=>by obtain⟨l,x,h1,h2,h3,h4⟩:=h;exact⟨false,l,x,h1,h2,h3,h4⟩
theorem GN{l:List Pl}{x:aq}:eJ l x<0↔(dz l x).isSome=false:=by
 cases h:dz l x with
 |none=>rw[qi h];simp
 |some p=>obtain⟨i,hi,_⟩:=mV h;rw[hi];simp
theorem wW(l:List Pl):(l.map eV).take l.length=l.map eV:=zan (by simp)
theorem qdY:LD X 82 3 (ah (aL 82 3) gRi):=LD.par (H:=[(68,eI),(42,mN),(54,GM)]) (hk:=[]) (by kernel_rfl) (by kernel_rfl) (.cons nP (.cons sY (.cons SZ .nil))) .nil
 (A:=List Pl) (B:=Int) (λa k=>riH a (ly (a.take k.toNat)) (ly (a.take k.toNat)).length k)
 (λa k=>a.length<=1000000/\0<=k/\k.toNat<=a.length)
 (λa k=>(a.length-k).toNat)
 (λa x=>x=(.exit 0,⟨43,[(3,.sl 0 0 (ly a).length)],[(0,⟨0,none,.arr 93 false ((ly a).map eV)⟩)]⟩))
 (by
  rintro l k ⟨hm,h0,h1⟩
  (rw[<-qig];delta fZ Hz tB Zh sa Zu ij tS Z6 Z5 Zd Z6f Zb nf JB JC JD OG Z6c Z6b qh Z5T jA n5 Yw fB fD fC fw fy nc iP q5 ZV ZW Zq Zm Zx ZM JE oV BE Lk)
  simp only[zaa];refine a8 (λh=> ?_) λh=> ?_
  ·have hk:k.toNat<l.length:=by omega
   rw[iO hk];have e:ly (l.take (k+1).toNat)=Jh (ly (l.take k.toNat)) (l.getD k.toNat s7):=by rw[show(k+1).toNat=k.toNat+1 by omega];exact Ji Jh [] l _ k.toNat hk
   have htl:=qg (l.take k.toNat);rw[zat] at htl;generalize l.getD k.toNat s7=p at e;generalize ly (l.take k.toNat)=T at e htl;have go: ∀T',Jh T p=T'-> ∃m,m<((l.length:Int)-k).toNat/\ ∃b,(riH l T' T'.length (k+1):S)=riH l (ly (l.take b.toNat)) (ly (l.take b.toNat)).length b/\(l.length<=1000000/\0<=b/\b.toNat<=l.length)/\m=((l.length:Int)-b).toNat:=λT' hT=>⟨((l.length:Int)-(k+1)).toNat,by omega,k+1,by rw[e,hT],⟨hm,by omega,by omega⟩,rfl⟩
   have fit:decide ((-9223372036854775808:Int)<=k+(1:Int)/\k+(1:Int)<=(9223372036854775807:Int))=true:=gB (by omega) (by omega);refine aP ⟨h0,by omega⟩ (ao (ia _) ⟨p.1.1,p.1.2.1,p.1.2.2,rfl,rfl,az (λh3=>aP ⟨h0,by omega⟩ (ao (ia _) ⟨p.2.2.1,rfl,rfl,az (λh4=>aP ⟨h0,by omega⟩ (ao (ia _) ⟨T,p.1,rfl,rfl,by omega,az (λh5=>aP ⟨h0,by omega⟩ (ao (ia _) (ao ?_ (ao fit ?_)))) λh5=>ao fit ?_⟩)) λh4=>ao fit ?_⟩)) λh3=>ao fit ?_⟩)
   ·simp[aJ];omega
   ·have hs:(dz T p.1).isSome=false:=GN.1 (zb1 h5);have:=go (T++[p]) (by unfold Jh;simp[hs,qu,h3,h4]);rw[wW];have e1:(T++[p]).length=T.length+1:=by simp
    have e2:(T++[p]).map eV=T.map eV++[eV p]:=by simp
    simp only[riH,e1,e2] at this;exact this
   ·have hs:(dz T p.1).isSome=true:=by
     cases hs:(dz T p.1).isSome with
     |true=>rfl
     |false=>exact absurd (GN.2 hs) (zcr h5)
    exact go T (by unfold Jh;simp[hs])
   ·refine go T ?_;unfold Jh;split
    ·rfl
    rw[zap (by simp[qu,h4])]
   refine go T ?_;unfold Jh;split
   ·rfl
   rw[zap (by simp[qu,h3])]
  rw[zan (by omega)];rfl)
 (by rintro s ae ⟨l,rfl,hm,hp⟩;refine⟨l,0,rfl,⟨hm,by decide,by simp⟩,?_⟩;rintro x rfl;exact hp)
theorem qii:FD X 82 hRi:=FD.mk (H:=[]) (hk:=[(3,ah (aL 82 3) gRi)]) (by kernel_rfl) .nil (.cons qdY .nil) (by
 intro ps R ae hh;obtain⟨l,rfl,rfl,hm,hp⟩:=hh
 (rw[<-qgx];delta Z6j jA n5 DX Z3 Hv ZE Sw fZ ij tS Z6i)
 exact⟨l,rfl,hm,hp⟩)
theorem qdZ:LD X 84 2 (ah (aL 84 2) gNa):=
 LD.scan (H:=[(55,iN),(101,I3)]) (hk:=[]) (by kernel_rfl) (by kernel_rfl) (.cons la (.cons Rn .nil)) .nil
  (A:=List Pl×Pl) (λa k=>naH a.1 a.2 k) (·.1) s7 (λa q=>OH a.2 q) (λ_=>True)
  (λa _=>⟨54,[(3,.ref 0 0 0),(4,sD (k9 a.2.2.2.1 a.2.1.1 a.2.1.2.1 a.2.1.2.2).1)],bxP 0 a.2⟩) (λa=>⟨54,[(3,.ref 0 0 0)],bxP 0 a.2⟩)
  (by
   rintro⟨l,p⟩ k ae _ hm h0 hk dy ht hf;dsimp only at*
   (rw[<-qgy];delta OI SR SS SU Yx Yy Yz SV Zh Zi dP dv fZ ij tS Z6 Z5 Zd Z6v ZV SX Zq Zm Zx ZM Z6u Zb nf JB JC JD JE oV qh BE Lk)
   simp only[zaa];rw[iO dy];generalize l.getD k.toNat s7=q at ht hf;have fit:decide ((-9223372036854775808:Int)<=k+(1:Int)/\k+(1:Int)<=(9223372036854775807:Int))=true:=gB (by omega) (by omega);refine gh (kY hk) (aP ⟨h0,hk⟩ (ao (ia _) (az (λh1=>aP ⟨h0,hk⟩ (ao (ia _) (az (λh2=>aP ⟨h0,hk⟩ (ao (ia _) ⟨_,_,_,_,_,_,rfl,rfl,az (λh3=>⟨_,_,_,_,rfl,rfl,ht ?_⟩) λh3=>ao fit (hf ?_)⟩)) λh2=>ao fit (hf ?_)))) λh1=>ao fit (hf ?_))))
   ·have Me:q.2.1=p.2.1:=qdV h1;have h3':=(ib q.1 p.1).1 (zb1 h3);have h2':(q.2.2.1==p.2.2.1)=true:=h2;simp[OH,Me,h2',h3']
   ·have h3': ¬lz q.1 p.1=true:=λh=>zcr h3 ((ib q.1 p.1).2 h);simp[OH,h3']
   ·have h2':(q.2.2.1==p.2.2.1)=false:=h2;simp[OH,h2']
   have Me:q.2.1≠p.2.1:=qdW h1;simp[OH,Me])
  (by
   rintro⟨l,p⟩ k ae _ hk hp;dsimp only at*
   (rw[<-qgy];delta OI SR SS SU Yx Yy Yz SV Zh Zi dP dv fZ ij tS Z6 Z5 Zd Z6v ZV SX Zq Zm Zx ZM Z6u Zb nf JB JC JD JE oV qh BE Lk)
   simp only[zaa];exact jo (me hk) hp)
  (by
   rintro s ae ⟨l,p,rfl,hm,h1,h2⟩;refine⟨(l,p),rfl,trivial,hm,λi hi h0=>h1 ?_,λh=>h2 ?_⟩
   ·rw[<-Lm (OH p) l,<-hi];exact kY h0
   rw[<-Lm (OH p) l];dsimp only at h;rw[h];rfl)
theorem qgC:FD X 84 hNa:=FD.mk (H:=[]) (hk:=[(2,ah (aL 84 2) gNa)]) (by kernel_rfl) .nil (.cons qdZ .nil) (by
 intro ps R ae hh;obtain⟨l,p,rfl,rfl,hm,hp⟩:=hh
 (rw[<-qgz];delta OI jA n5 SR SS SU Yx Yy Yz SV Z3 ZB dP dv fZ ij tS)
 have e:DU l p=if l.any (OH p)=true then(k9 p.2.2.1 p.1.1 p.1.2.1 p.1.2.2).1 else p.2.2.1:=rfl
 exact⟨l,p,rfl,hm,λh=>hp _ (by rw[e,zaq h]),λh=>hp _ (by rw[e,h];rfl)⟩)
theorem S0{T:List Pl}{V:List aq}(hu:Uq T):Uq (aQ T V):=by unfold Uq;exact vS hu V
theorem NJ{T:List Pl}{V:List aq}(hu:Uq T){x:aq}{p:Pl}(h:marked T V x=true)(hp:dz T x=some p):dz (aQ T V) x=some p:=by have:=tc (S0 (V:=V) hu) (tv h hp);rwa [(du hp).2] at this
theorem qd0:LD X 57 2 (ah (aL 57 2) gPa):=LD.par (H:=[(84,hNa),(54,SI)]) (hk:=[]) (by kernel_rfl) (by kernel_rfl) (.cons qgC (.cons qbf .nil)) .nil
 (A:=List Pl×List aq×List aq) (B:=Pl×List UInt8×aq×List aq×List aq) (λa b=>paH (aQ a.1 a.2.1) b.1 b.2.1)
 (λ⟨T,V,w0⟩ ⟨p,s,x,v,w⟩=>T.length<=1000/\Rt T/\w0.length<=T.length/\marked T V x=true/\dz T x=some p/\Up T x w/\w0=v++w/\s=cE ((v++[x]).reverse.map (q4 T V))/\(∀u∈w,marked T V u=true)/\(cE (w0.reverse.map (q4 T V))).length<=201*T.length/\s.length<=201*(v.length+1))
 (λ_ b=>b.2.2.2.2.length)
 (λ⟨T,V,w0⟩ r=>r=(.exit 0,⟨28,[(5,sD (cE (w0.reverse.map (q4 T V))))],[]⟩))
 (by
  rintro⟨T,V,w0⟩ ⟨p,s,x,v,w⟩ ⟨hm,hT,hw0,hmx,hpx,hw,ri,hs,hmw,hlen,Hm⟩;dsimp only at*
  have hsL:(aQ T V).length<=T.length:=za2 _ _
  (rw[<-qih];delta ZV XL dP dv fZ ij tS Rj Zr ZX OI SR SS SU Yx Yy Yz Z6w zq Z5Y Z5X Z5W qh Z5U jA n5 Zq fB fD fC fw fy nc iP)
  simp only[zaa];cases hw with
  |top h h0=>
   rw[hpx] at h;cases h;refine jo ?_ ?_
   ·rw[h0];rfl
   show _=_;rw[ri,hs]
  | @step _ p' q w' h h0 hq hd pJ=>
   rw[hpx] at h;cases h;obtain⟨r,hr⟩:=pJ.hd;have hmq:marked T V p.2.1=true:=hmw _ (by rw[hr];simp);have hqs:=NJ hT.1 hmq hq;obtain⟨i,hi,cj,NK⟩:=mV hqs;have zL:=wV (aQ T V) (hT.2 q (du hq).1);have hnx:q4 T V p.2.1=DU (aQ T V) q:=by unfold q4;rw[hq]
   have hvl:v.length+1<=T.length:=by have:=congrArg List.length ri;simp at this;omega
   refine gh ?_ ⟨aQ T V,p.2.1,rfl,rfl,by omega,?_⟩
   ·have:=qz p.2.1 (0,0,0);rw[show(p.2.1==(0,0,0))=false by simpa using h0] at this;simp only at this;show(!_)=true;rw[this];rfl
   rw[hi];simp only[zbc];rw[iO cj,NK];refine aP ⟨by omega,by omega⟩ (ao (ia q) ⟨aQ T V,q,rfl,rfl,by omega,λs1 oK=> ?_⟩);subst oK;refine aP (by omega) (aP (by simp;omega) ⟨w'.length,by simp,(q,[47]++DU (aQ T V) q++s,p.2.1,v++[x],w'),rfl,⟨hm,hT,hw0,hmq,hq,pJ,by rw[ri];simp,?_,λu hu=>hmw u (by simp[hu]),hlen,?_⟩,rfl⟩)
   ·simp only;rw[hs,<-hnx];simp[cE]
   simp only;simp;omega)
 (by
  rintro s ae ⟨T,V,x,p,w,rfl,⟨hm,hT,⟨hmx,hpx⟩,hw⟩,hp⟩;obtain⟨w2,hw2,mw⟩:=ky hmx;have:=hw.one hw2;subst this;have hnx:q4 T V x=DU (aQ T V) p:=by unfold q4;rw[hpx]
  have zL:=wV (aQ T V) (hT.2 p (du hpx).1);refine⟨(T,V,w),(p,[47]++DU (aQ T V) p,x,[],w),rfl,⟨hm,hT,hw.len,hmx,hpx,hw,rfl,by rw[<-hnx];simp[cE],mw,BD hT hw,by simp;omega⟩,?_⟩;rintro r rfl;exact hp)
theorem qij:FD X 57 hPa:=FD.mk (H:=[(84,hNa)]) (hk:=[(2,ah (aL 57 2) gPa)]) (by kernel_rfl) (.cons qgC .nil) (.cons qd0 .nil) (by
 intro ps R ae hh;obtain⟨T,V,p,rfl,rfl,⟨hm,hT,hp0⟩,hp⟩:=hh;obtain⟨hpT,hpm⟩:=tA hp0;have AK:=tc hT.1 hpT;obtain⟨w,hw,_⟩:=ky hpm;have hsL:(aQ T V).length<=T.length:=za2 _ _;have zL:=wV (aQ T V) (hT.2 p hpT)
 (rw[<-qgA];delta jA DY OI SR SS SU Yx Yy Yz SV Rj dP dv fZ ij tS Zr ZX n5 Zq Z6w)
 refine⟨aQ T V,p,rfl,rfl,by omega,λs hs=> ?_⟩;subst hs;refine aP (by omega) ⟨T,V,p.1,p,w,rfl,⟨hm,hT,⟨hpm,AK⟩,hw⟩,?_⟩;unfold oD at hp;rw[lh hw] at hp;exact hp)
end
abbrev Lo(n:Nat)(z:Bool)(l:List Pl):List (Nat×En):=[(n,⟨0,none,.arr 93 z (l.map eV)⟩)]
abbrev NL(n:Nat)(l:List It):List (Nat×En):=[(n,⟨0,none,.arr 52 false (l.map dW)⟩)]
abbrev skH(z:Bool)(l:List Pl)(n:Nat)(v:List aq)(o:List Pl)(m:Nat)(i:Int):S:=⟨62,[(0,.sl 0 0 n),(1,da v),(5,.sl 1 0 m),(6,iD i)],Lo 0 z l++Lo 1 false o⟩
abbrev skI(z:Bool)(l:List Pl)(n:Nat)(v:List aq)(o:List Pl)(m:Nat)(i:Int)(b:Bool)(k:Int):S:=⟨62,[(0,.sl 0 0 n),(1,da v),(5,.sl 1 0 m),(6,iD i),(7,.d (.bool b)),(8,iD k)],Lo 0 z l++Lo 1 false o⟩
def Lp(l:List Pl)(v:List aq)(p q:Pl):Bool:=decide (q.1∈v)&&lb l q.1&&within l q.1 p.1
def qd1:S->K (PX×S):=λs ae=> ∃z l v o m i b,s=skI z l l.length v o m i b 0/\(l.length<=1000000/\v.length<=1000000/\0<=i/\i<l.length)/\
 ∀z' b',b'=(b ||l.any (Lp l v (l.getD i.toNat s7)))->ae (.exit 2,⟨62,[(0,.sl 0 0 l.length),(1,da v),(5,.sl 1 0 m),(6,iD i),(7,.d (.bool b'))],Lo 0 z' l++Lo 1 false o⟩)
def Z6E(l:List Pl):Nat×En:=(0,En.mk 0 none (Obj.arr (93:TypeId) true (fZ l)))
def wv(b:Bool):Nat×P:=(7,fX b)
def GO(o:List Pl):List (Nat×En):=[(1,Hz o)]
def HA(z:Bool)(vY:List Pl):Nat×En:=(0,En.mk 0 none (Obj.arr (93:TypeId) z (fZ vY)))
def sc(k:Int):List (Nat×P):=[(8,P.d (Zh k))]
def ei(i:Int):Nat×P:=(6,P.d (Zm i))
def HB(m:Nat):Nat×P:=(5,P.sl 1 0 m)
theorem qgD(z:Bool)(l:List Pl)(n:Nat)(v:List aq)(o:List Pl)(m:Nat)(i:Int)(b:Bool)(k:Int)(ae:PX×S->Prop):(bif Yr k n then ob (mZ k n) (ob (Hy k l) (ob (oV l k) (∃(ar:List aq) (x:aq),[iw v,JE l k]=iw ar::iP x/\Zq/\mq ar/\bif decide (x∈ar) then ob (mZ k n) (ob (Hy k l) (ob (oV l k) (∃(jz:List Pl) (x:aq),[P.d (D.sl 8 (List.take n (fZ l))),JE l k]=ij jz::iP x/\Zq/\n5 jz/\ ∀(S1:Bool),S1=lb jz x->bif S1 then ob (mZ k n) (ob (Hy k l) (ob (oV l k) (ob (mZ i n) (ob (Hy i l) (ob (oV l i) (∃(z:Bool) (vY:List Pl) (x:aq) (y:aq),[Zu n,JE l k,JE l i]=q5 vY::nc x::iP y/\[(0,En.mk 0 (some 0) (Obj.arr (93:TypeId) true (fZ l)))]=DV z vY/\n5 vY/\ ∀(b_2:Bool),b_2=within vY x y->bif b_2 then ob (Zd k) (ae (PX.normal,S.mk 62 (zp n::qx v::HB m::ei i::(7,ZC)::sc k) (HA z vY::GO o))) else ob (Zd k) (ae (PX.normal,S.mk 62 (zp n::qx v::HB m::ei i::wv b::sc k) (HA z vY::GO o))))))))) else ob (Zd k) (ae (PX.normal,S.mk 62 (zp n::qx v::HB m::ei i::wv b::sc k) (Z6E l::GO o)))))) else ob (Zd k) (ae (PX.normal,S.mk 62 (zp n::qx v::HB m::ei i::wv b::sc k) (HA z l::GO o)))))) else ae (PX.exit 2,S.mk 62 [zp n,qx v,HB m,ei i,wv b] (HA z l::GO o)))=(aC [(58,JA),(83,qdU),(53,qdS)] [] 56 8 (skI z l n v o m i b k)) ae:=by kernel_rfl
def yT:List (Nat×P):=[(8,P.d Z3)]
theorem qgE(z:Bool)(l:List Pl)(n:Nat)(v:List aq)(o:List Pl)(m:Nat)(i:Int)(ae:PX×S->Prop):(bif Yr i n then∃(NI:Bool) (ar:List Pl) (e9:List aq) (aZ:List Pl) (dV:Nat) (aX:Int) (b:Bool),S.mk 62 (zp n::qx v::HB m::ei i::(7,P.d Z0)::yT) (HA z l::GO o)=S.mk 62 ((0,q5 ar)::qx e9::HB dV::ei aX::wv b::yT) (HA NI ar::GO aZ)/\(n5 ar/\mq e9/\(0:Int)<=aX/\aX<(↑(jA ar):Int))/\ ∀(z' b':Bool),b'=(b ||List.any ar (Lp ar e9 (List.getD ar (Zb aX) s7)))->bif b' then ob (decide ((0:Int)<=aX/\aX<(↑(jA ar):Int))) (ob (Hy aX ar) (ob (oV ar aX) (ob (Nat.ble dV (qh aZ)&&aJ (Z6b dV ar aX) 72) (ob (Zd aX) (ae (PX.normal,S.mk 62 ((0,q5 ar)::qx e9::(5,P.sl 1 0 (Z6b dV ar aX))::Zt aX) [HA z' ar,(1,Z6c dV aZ ar aX)])))))) else ob (Zd aX) (ae (PX.normal,S.mk 62 ((0,q5 ar)::qx e9::HB dV::Zt aX) (HA z' ar::GO aZ))) else ae (PX.exit 0,S.mk 62 [Zv m] (tB o)))=(aC [] [(8,ah (aL 56 8) qd1)] 56 4 (skH z l n v o m i)) ae:=by kernel_rfl
def qd2:S->K (PX×S):=λs ae=> ∃l v,s=skH false (ly l) (ly l).length v [] 0 0/\(l.length<=1000000/\v.length<=1000000)/\ae (.exit 0,⟨62,[(5,.sl 0 0 (aQ (ly l) v).length)],Lo 0 false (aQ (ly l) v)⟩)
def Z6I(l:List Pl)(e9:List aq):Nat×En:=(0,En.mk 0 none (Obj.arr (93:TypeId) false (List.map eV (aQ (ly l) e9))))
def DZ:List (Nat×P):=[(6,P.d Z3)]
def Z6H(l:List Pl)(e9:List aq):S:=S.mk 62 ((0,P.sl 0 0 (List.length (ly l)))::qx e9::(5,rI)::DZ) [Z6j l,(1,DX)]
theorem qik(l:List Pl)(v:List aq)(ae:P×List (Nat×En)->Prop):(∃(ar:List Pl),[ij l]=[ij ar]/\Zq/\n5 ar/\ ∃(l:List Pl) (e9:List aq),Z6H ar v=Z6H l e9/\(n5 l/\mq e9)/\ae (P.sl 0 0 (List.length (aQ (ly l) e9)),[Z6I l e9]))=(aK [(82,hRi)] [(4,ah (aL 56 4) qd2)] 56 [eC l,da v] []) ae:=by kernel_rfl
def JF:bh:=λps R ae=> ∃l v,ps=[eC l,da v]/\R=[]/\(l.length<=1000000/\v.length<=1000000)/\ae (.sl 0 0 (aQ (ly l) v).length,Lo 0 false (aQ (ly l) v))
abbrev imH(z:Bool)(l:List Pl)(n:Nat)(v:List aq)(o:List It)(m:Nat)(i:Int):S:=⟨77,[(1,da v),(5,.sl 0 0 n),(6,.sl 1 0 m),(7,iD i)],Lo 0 z l++NL 1 o⟩
abbrev imI(z:Bool)(l:List Pl)(n:Nat)(v:List aq)(o:List It)(m:Nat)(i k:Int):S:=⟨77,[(1,da v),(5,.sl 0 0 n),(6,.sl 1 0 m),(7,iD i),(9,iD k)],Lo 0 z l++NL 1 o⟩
def qd3:S->K (PX×S):=λs ae=> ∃z l n v o a i k,s=imI z l n v (o++[a]) (o.length+1) i k/\(k=(o.length:Int)/\o.length<=1000000)/\ae (.exit 2,imH z l n v (ct GI o a) (o.length+1) i)
def Z6S(o:List It):En:=En.mk 0 none (Obj.arr (52:TypeId) false (List.map dW o))
def oW(i:Int):Nat×P:=(7,P.d (Zm i))
def Z6T(ae:PX×S->Prop)(v:List aq)(n:Nat)(m:Nat)(i:Int)(z:Bool)(l:List Pl)(o:List It):Prop:=ae (PX.exit 2,S.mk 77 [qx v,Zv n,FU m,oW i] [HA z l,(1,Z6S o)])
def zr(o:List It)(k:Int):D:=D.nth (List.map dW o) (Zb k)
def Z6N(o:List It)(k:Int):List D:=[D.int .i64 (D.aj (D.ax (zr o k) 0)),D.int .i64 (D.aj (D.ax (zr o k) 1)),D.int .i64 (D.aj (D.ax (zr o k) 2)),D.str (D.cm (D.ax (zr o k) 3)),D.bool (D.eY (D.ax (zr o k) 4)),D.bool (D.eY (D.ax (zr o k) 5))]
def Z6R(k:Int):List (Nat×P):=[(9,Zl k)]
def VG(o:List It)(k:Int):D:=D.nth (List.map dW o) (Z8 k)
def Z6O(o:List It)(k:Int):List D:=List.set (List.map dW o) (Zb k) (D.bc (D.agg (Z6N o k)) [D.int .i64 (D.aj (D.ax (VG o k) 0)),D.int .i64 (D.aj (D.ax (VG o k) 1)),D.int .i64 (D.aj (D.ax (VG o k) 2)),D.str (D.cm (D.ax (VG o k) 3)),D.bool (D.eY (D.ax (VG o k) 4)),D.bool (D.eY (D.ax (VG o k) 5))])
def Z6P(o:List It)(k:Int):D:=D.nth (Z6O o k) (Z8 k)
def tT(k:Int)(m:Nat):Bool:=decide ((0:Int)<=k-(1:Int)/\k-(1:Int)<(↑m:Int))
def OJ(o:List It):Nat:=List.length (List.map dW o)
theorem qgF(z:Bool)(l:List Pl)(n:Nat)(v:List aq)(o:List It)(m:Nat)(i k:Int)(ae:PX×S->Prop):(bif Zk k then ob (mZ k m) (ob (decide (Zb k<OJ o)) (ob (cT PR (52:TypeId) (zr o k)) (ob (Z7 k) (ob (tT k m) (ob (decide (Z8 k<OJ o)) (ob (cT PR (52:TypeId) (VG o k)) (bif Op.bytesLess (D.cm (D.ax (zr o k) 3)) (D.cm (D.ax (VG o k) 3)) then ob (Z7 k) (ob (Z7 k) (ob (tT k m) (ob (decide (Z8 k<OJ o)) (ob (cT PR (52:TypeId) (VG o k)) (ob (mZ k m) (ob (decide (Zb k<OJ o)) (ob (cT PR (52:TypeId) (zr o k)) (ob (mZ k m) (ob (decide (Zb k<OJ o)) (ob (cT PR (52:TypeId) (zr o k)) (ob (tT k m) (ob (decide (Z8 k<List.length (Z6O o k))) (ob (cT PR (52:TypeId) (Z6P o k)) (ob (Z7 k) (ae (PX.normal,S.mk 77 (qx v::Zv n::FU m::oW i::Z6R k) [HA z l,(1,En.mk 0 none (Obj.arr (52:TypeId) false (List.set (Z6O o k) (Z8 k) (D.bc (D.agg [D.int .i64 (D.aj (D.ax (Z6P o k) 0)),D.int .i64 (D.aj (D.ax (Z6P o k) 1)),D.int .i64 (D.aj (D.ax (Z6P o k) 2)),D.str (D.cm (D.ax (Z6P o k) 3)),D.bool (D.eY (D.ax (Z6P o k) 4)),D.bool (D.eY (D.ax (Z6P o k) 5))]) (Z6N o k)))))])))))))))))))))) else Z6T ae v n m i z l o))))))) else Z6T ae v n m i z l o)=(aC [] [] 30 9 (imI z l n v o m i k)) ae:=by kernel_rfl
def VH(k:Int):List (Nat×P):=[(9,P.d (Zm k))]
def Z6U(l:List Pl)(i:Int)(T:List Pl)(V:List aq)(p:Pl)(ar:List aq)(x:aq):List D:=[D.agg [JD l i,JC l i,JB l i,D.str (oD T V (Prod.fst p)),D.bool (D.eY (D.ax (nf l i) 7)),D.bool !decide (x∈ar)]]
theorem qgG(z:Bool)(l:List Pl)(n:Nat)(v:List aq)(o:List It)(m:Nat)(i:Int)(ae:PX×S->Prop):(bif Yr i n then ob (mZ i n) (ob (Hy i l) (ob (oV l i) (∃(T:List Pl) (V:List aq) (p:Pl),[P.d (D.sl 8 (List.take n (fZ l))),P.d (D.agg (OG l i))]=P.d (D.sl 8 (List.map eV (aQ T V)))::Z6w p/\Zq/\(DY T/\Rt T/\p∈aQ T V)/\ ∃(ar:List aq) (x:aq),[iw v,JE l i]=iw ar::iP x/\Zq/\mq ar/\ob (Nat.ble m (OJ o)&&aJ (m+List.length (Z6U l i T V p ar x)) 48) (ob (decide (Z5<=(↑(m+List.length (Z6U l i T V p ar x)):Int)-(1:Int)/\(↑(m+List.length (Z6U l i T V p ar x)):Int)-(1:Int)<=Z6)) (∃(z:Bool) (jz:List Pl) (ft:Nat) (e9:List aq) (aZ:List It) (a:It) (aX:Int) (k:Int),S.mk 77 [qx v,Zv n,(6,P.sl 1 0 (m+List.length (Z6U l i T V p ar x))),oW i,(9,P.d (D.int .i64 ((↑(m+List.length (Z6U l i T V p ar x)):Int)-(1:Int))))] [Z6E l,(1,En.mk 0 none (Obj.arr (52:TypeId) false (List.take m (List.map dW o)++Z6U l i T V p ar x)))]=S.mk 77 (qx e9::Zv ft::(6,P.sl 1 0 (List.length aZ+1))::oW aX::VH k) [HA z jz,(1,En.mk 0 none (Obj.arr (52:TypeId) false (List.map dW (aZ++[a]))))]/\(k=(↑(List.length aZ):Int)/\List.length aZ<=1000000)/\ob (Zd aX) (ae (PX.normal,S.mk 77 (qx e9::Zv ft::(6,P.sl 1 0 (List.length aZ+1))::qw aX) [HA z jz,(1,En.mk 0 none (Obj.arr (52:TypeId) false (List.map dW (ct GI aZ a))))]))))))) else ae (PX.exit 0,S.mk 77 [(6,Zu m)] [(0,Z6S o)]))=(aC [(57,hPa),(58,JA)] [(9,ah (aL 30 9) qd3)] 30 4 (imH z l n v o m i)) ae:=by kernel_rfl
def qd4:S->K (PX×S):=λs ae=> ∃T v,s=imH false (aQ T v) (aQ T v).length v [] 0 0/\(T.length<=1000/\Rt T/\v.length<=1000000)/\ae (.exit 0,⟨77,[(6,.sl 0 0 (bY T v).length)],NL 0 (bY T v)⟩)
def OL:En:=En.mk 0 none (Obj.arr (52:TypeId) false [])
def Z6W:List (Nat×P):=(6,rI)::uG
theorem qil(l:List Pl)(v:List aq)(ae:P×List (Nat×En)->Prop):(∃(ar:List Pl) (e9:List aq),[ij l,iw v]=[ij ar,iw e9]/\Zq/\(n5 ar/\mq e9)/\ ∃(T:List Pl) (Vz:List aq),S.mk 77 (qx v::(5,P.sl 0 0 (List.length (aQ (ly ar) e9)))::Z6W) [Z6I ar e9,(1,OL)]=S.mk 77 (qx Vz::(5,P.sl 0 0 (List.length (aQ T Vz)))::Z6W) [(0,En.mk 0 none (Obj.arr (93:TypeId) false (List.map eV (aQ T Vz)))),(1,OL)]/\(DY T/\Rt T/\mq Vz)/\ae (P.sl 0 0 (List.length (bY T Vz)),[(0,En.mk 0 none (Obj.arr (52:TypeId) false (List.map dW (bY T Vz))))]))=(aK [(56,JF)] [(4,ah (aL 30 4) qd4)] 30 [eC l,da v] []) ae:=by kernel_rfl
def Dr:bh:=λps R ae=> ∃l v,ps=[eC l,da v]/\R=[]/\(l.length<=1000/\v.length<=1000000)/\ae (.sl 0 0 (bY (ly l) v).length,NL 0 (bY (ly l) v))
theorem YB{T:List Pl}(hT:Rt T):dz T aD=none:=by
 cases h:dz T aD with
 |none=>rfl
 |some p=>obtain⟨h1,h2⟩:=du h;have:=hT.2 p h1;simp[qu,h2,aY] at this
theorem JG{T:List Pl}{V:List aq}(hT:Rt T){p:Pl}(hp:p∈T):T.any (Lp T V p)=marked T V p.1:=by
 have cU:p.1≠aD:=λe=>by have:=hT.2 p hp;simp[qu,e,aY] at this
 have hw: ∀{x w},Up T x w->within T x p.1=decide (p.1∈w):=λ{x w} h=>Jk h cU (YB hT) _ (by have:=h.len;omega);rw[zbh,zbG,rL];constructor
 ·rintro⟨q,hq,h⟩;simp only[Lp,zad,zal] at h;obtain⟨⟨h1,h2⟩,h3⟩:=h;obtain⟨w,pJ⟩:=yF.1 h2;rw[hw pJ] at h3;exact⟨q.1,h1,w,pJ,by simpa using h3⟩
 rintro⟨x,hx,w,pJ,hm⟩;obtain⟨q,hq⟩:=pJ.at;obtain⟨q1,q2⟩:=du hq;refine⟨q,q1,?_⟩;simp only[Lp,zad,zal,q2];exact⟨⟨hx,yF.2 ⟨w,pJ⟩⟩,by rw[hw pJ];simpa using hm⟩
theorem NM{α:Type}(f:α->Bool)(l:List α)(d:α){k:Nat}(h:k<l.length):(l.take (k+1)).any f=((l.take k).any f ||f (l.getD k d)):=by rw[zbo,getD_some h d];simp
theorem Ds{α:Type}(f:α->Bool)(l:List α)(d:α){k:Nat}(h:k<l.length):(l.take (k+1)).filter f=(l.take k).filter f++(if f (l.getD k d) then [l.getD k d] else []):=by rw[zbo,getD_some h d,zcd];simp only[zcW,List.filter_cons,zcp]
theorem S2{α β:Type}(f:α->β)(pre nZ:List α)(b a:α)(u v:β)(hu:u=f b)(hv:v=f a):(((pre++b::a::nZ).map f).set (pre.length+1) u).set pre.length v=(pre++a::b::nZ).map f:=by subst hu;subst hv;simp
section
variable{X:XF}
theorem YC:LD X 56 8 (ah (aL 56 8) qd1):=LD.par (H:=[(58,JA),(83,qdU),(53,qdS)]) (hk:=[]) (by kernel_rfl) (by kernel_rfl) (.cons SP (.cons qgB (.cons qbg .nil))) .nil
 (A:=List Pl×List aq×List Pl×Nat×Int×Bool) (B:=Bool×Bool×Int) (λ⟨l,v,o,m,i,_⟩ ⟨z,b,k⟩=>skI z l l.length v o m i b k)
 (λ⟨l,v,_,_,i,b0⟩ ⟨_,b,k⟩=>l.length<=1000000/\v.length<=1000000/\0<=i/\i<l.length/\0<=k/\k<=l.length/\b=(b0 || (l.take k.toNat).any (Lp l v (l.getD i.toNat s7))))
 (λ⟨l,_⟩ ⟨_,_,k⟩=>(l.length-k).toNat)
 (λ⟨l,v,o,m,i,b0⟩ x=> ∃z' b',b'=(b0 ||l.any (Lp l v (l.getD i.toNat s7)))/\x=(.exit 2,⟨62,[(0,.sl 0 0 l.length),(1,da v),(5,.sl 1 0 m),(6,iD i),(7,.d (.bool b'))],Lo 0 z' l++Lo 1 false o⟩))
 (by
  rintro⟨l,v,o,m,i,b0⟩ ⟨z,b,k⟩ ⟨hm,hv,lx,hi,h0,hk,hb⟩;dsimp only at*
  (rw[<-qgD];delta fZ Z6E fX wv Hz GO HA Zh sc ZC Zm ei HB fM iw qx Zu zp Z6 Z5 Zd NH DV fB fD fC fw fy nc jA q5 n5 ij gk mq Zq iP Zb nf JB JC JD JE oV qh Hy mZ Yr)
  refine a8 (λh=> ?_) λh=> ?_
  ·have dy:k.toNat<l.length:=by omega
   have bK:i.toNat<l.length:=by omega
   have JH:=NM (Lp l v (l.getD i.toNat s7)) l s7 dy;rw[iO dy,iO bK];generalize l.getD k.toNat s7=q at JH;generalize l.getD i.toNat s7=p at JH hb;have fit:decide ((-9223372036854775808:Int)<=k+(1:Int)/\k+(1:Int)<=(9223372036854775807:Int))=true:=gB (by omega) (by omega);have go: ∀z' b',b'=(b ||Lp l v p q)-> ∃m',m'<((l.length:Int)-k).toNat/\ ∃b2:Bool×Bool×Int,(skI z' l l.length v o m i b' (k+1):S)=skI b2.1 l l.length v o m i b2.2.1 b2.2.2/\
     (l.length<=1000000/\v.length<=1000000/\0<=i/\i<l.length/\0<=b2.2.2/\b2.2.2<=l.length/\b2.2.1=(b0 || (l.take b2.2.2.toNat).any (Lp l v p)))/\m'=((l.length:Int)-b2.2.2).toNat:=λz' b' cV=>⟨((l.length:Int)-(k+1)).toNat,by omega,(z',b',k+1),rfl,⟨hm,hv,lx,hi,by simp only;omega,by simp only;omega,by simp only;rw[show(k+1).toNat=k.toNat+1 by omega,JH,cV,hb,zcZ]⟩,rfl⟩
   have dl:decide (k.toNat<(l.map eV).length)=true:=kY (by rw[zaa];exact dy);have di:decide (i.toNat<(l.map eV).length)=true:=kY (by rw[zaa];exact bK);refine aP ⟨h0,h⟩ (ao dl (ao (ia q) ⟨v,q.1,rfl,rfl,hv,az (λh1=>aP ⟨h0,h⟩ (ao dl (ao (ia q) ⟨l,q.1,by rw[wW];rfl,rfl,hm,λb1 ji=>az (λh2=>aP ⟨h0,h⟩ (ao dl (ao (ia q) (aP ⟨lx,hi⟩ (ao di (ao (ia p) ⟨true,l,q.1,p.1,rfl,rfl,hm,λb2 dM=>az (λh3=>ao fit (go _ _ ?_)) λh3=>ao fit (go _ _ ?_)⟩)))))) λh2=>ao fit (go _ _ ?_)⟩))) λh1=>ao fit (go _ _ ?_)⟩))
   ·unfold Lp;rw[h1,<-ji,h2,<-dM,h3];simp
   ·unfold Lp;rw[h1,<-ji,h2,<-dM,h3];simp
   ·unfold Lp;rw[h1,<-ji,h2];simp
   unfold Lp;rw[h1];simp
  refine⟨z,b,?_,rfl⟩;rw[hb,zan (by omega)])
 (by rintro s ae ⟨z,l,v,o,m,i,b,rfl,⟨hm,hv,lx,hi⟩,hp⟩;refine⟨(l,v,o,m,i,b),(z,b,0),rfl,⟨hm,hv,lx,hi,by simp,by simp,by simp⟩,?_⟩;rintro x ⟨z',b',h1,rfl⟩;exact hp z' b' h1)
theorem YD:LD X 56 4 (ah (aL 56 4) qd2):=LD.par (H:=[]) (hk:=[(8,ah (aL 56 8) qd1)]) (by kernel_rfl) (by kernel_rfl) .nil (.cons YC .nil)
 (A:=List Pl×List aq) (B:=Bool×Int) (λa b=>skH b.1 a.1 a.1.length a.2 ((a.1.take b.2.toNat).filter λp=>marked a.1 a.2 p.1) ((a.1.take b.2.toNat).filter λp=>marked a.1 a.2 p.1).length b.2)
 (λa b=>a.1.length<=1000000/\a.2.length<=1000000/\Rt a.1/\0<=b.2/\b.2<=a.1.length)
 (λa b=>(a.1.length-b.2).toNat)
 (λa x=>x=(.exit 0,⟨62,[(5,.sl 0 0 (aQ a.1 a.2).length)],Lo 0 false (aQ a.1 a.2)⟩))
 (by
  rintro⟨l,v⟩ ⟨z,i⟩ ⟨hm,hv,hT,h0,hi⟩;dsimp only at*
  (rw[<-qgE];delta fZ Hz tB Zu Zv Zb nf JB JC JD OG Z6c Zh Zt Z6 Z5 Zd Z6b qh oV Hy jA gk mq n5 fX wv q5 GO HA Z3 yT Z0 Zm ei HB fM iw qx zp Yr)
  refine a8 (λh=> ?_) λh=> ?_
  ·have bK:i.toNat<l.length:=by omega
   have ng:=Ds (λp:Pl=>marked l v p.1) l s7 bK;have hpm:l.getD i.toNat s7∈l:=zaz (getD_some bK s7);have wb:((l.take i.toNat).filter λp=>marked l v p.1).length<=l.length:=zaE (za2 _ _) (by rw[zat];omega);refine⟨z,l,v,_,_,i,false,rfl,⟨hm,hv,h0,h⟩,λz' b' cV=> ?_⟩;rw[JG hT hpm] at cV;rw[iO bK];generalize l.getD i.toNat s7=p at ng cV;generalize hoo:((l.take i.toNat).filter λp=>marked l v p.1)=o at ng wb;have fit:decide ((-9223372036854775808:Int)<=i+(1:Int)/\i+(1:Int)<=(9223372036854775807:Int))=true:=gB (by omega) (by omega);have go: ∀o',((l.take (i+1).toNat).filter λp=>marked l v p.1)=o'-> ∃m',m'<((l.length:Int)-i).toNat/\ ∃b2:Bool×Int,(skH z' l l.length v o' o'.length (i+1):S)=skH b2.1 l l.length v ((l.take b2.2.toNat).filter λp=>marked l v p.1) ((l.take b2.2.toNat).filter λp=>marked l v p.1).length b2.2/\
     (l.length<=1000000/\v.length<=1000000/\Rt l/\0<=b2.2/\b2.2<=l.length)/\m'=((l.length:Int)-b2.2).toNat:=λo' fA=>⟨((l.length:Int)-(i+1)).toNat,by omega,(z',i+1),by simp only;rw[fA],⟨hm,hv,hT,by simp only;omega,by simp only;omega⟩,rfl⟩
   have hs:(i+1).toNat=i.toNat+1:=by omega
   refine az (λhb=>aP ⟨h0,h⟩ (ao (kY (by rw[zaa];exact bK)) (ao (ia p) (ao ?_ (ao fit ?_))))) λhb=>ao fit ?_
   ·simp[aJ];omega
   ·have:=go (o++[p]) (by rw[hs,ng,zaq (by rw[<-hb,cV];rfl)]);rw[wW];have e1:(o++[p]).length=o.length+1:=by simp
    have e2:(o++[p]).map eV=o.map eV++[eV p]:=by simp
    simp only[skH,Lo,e1,e2] at this;exact this
   exact go o (by
    have:marked l v p.1=false:=by rw[<-hb,cV];rfl
    rw[hs,ng,this];simp)
  rw[zan (by omega)];rfl)
 (by rintro s ae ⟨l,v,rfl,⟨hm,hv⟩,hp⟩;have htl:=qg l;refine⟨(ly l,v),(false,0),rfl,⟨by simp only;omega,hv,Dq l,by simp,by simp⟩,?_⟩;rintro x rfl;exact hp)
theorem S3:FD X 56 JF:=FD.mk (H:=[(82,hRi)]) (hk:=[(4,ah (aL 56 4) qd2)]) (by kernel_rfl) (.cons qii .nil) (.cons YD .nil) (by
 intro ps R ae hh;obtain⟨l,v,rfl,rfl,⟨hm,hv⟩,hp⟩:=hh
 (rw[<-qik];delta Z6I gk mq DX Z6j Z3 DZ rI fM iw qx Z6H jA n5 Zq fZ ij)
 exact⟨l,rfl,rfl,hm,l,v,rfl,⟨hm,hv⟩,hp⟩)
theorem Lq{l:List It}{i:Nat}(h:i<l.length)(x:It)(hx:l[i]?=some x):D.nth (l.map dW) i=dW x:=by rw[qdP h it0];congr 1;rw[zab,hx];rfl
theorem YE:LD X 30 9 (ah (aL 30 9) qd3):=LD.par (H:=[]) (hk:=[]) (by kernel_rfl) (by kernel_rfl) .nil .nil
 (A:=Bool×List Pl×Nat×List aq×List It×It×Int) (B:=List It×List It) (λ⟨z,l,n,v,o,a,i⟩ ⟨pre,nZ⟩=>imI z l n v (pre++a::nZ) (o.length+1) i (pre.length:Int))
 (λ⟨_,_,_,_,o,a,_⟩ ⟨pre,nZ⟩=>o.length<=1000000/\pre.length+nZ.length=o.length/\(nV GI a pre.reverse).reverse++nZ=ct GI o a)
 (λ_ ⟨pre,_⟩=>pre.length)
 (λ⟨z,l,n,v,o,a,i⟩ x=>x=(.exit 2,imH z l n v (ct GI o a) (o.length+1) i))
 (by
  rintro⟨z,l,n,v,o,a,i⟩ ⟨pre,nZ⟩ ⟨hm,hl,hr⟩;dsimp only at*
  (rw[<-qgF];delta Z6S fZ HA Zm oW FU Zu Zv fM iw qx Z6T Zb zr Z6N Zl Z6R Z8 VG Z6O Z6P tT Z6 Z5 Z7 OJ mZ Zk)
  rcases zcK pre with rfl | ⟨pre,b,rfl⟩
  ·refine jo (me (by simp)) ?_;show _=_;rw[<-hr];rfl
  simp only[List.concat_eq_append] at*
  rw[zaj,zaU] at hl;have gJ:(((pre++[b]).length:Int)).toNat=pre.length+1:=by simp
  have u7:(((pre++[b]).length:Int)-1).toNat=pre.length:=by simp
  rw[gJ,u7];have hlen:(((pre++[b])++a::nZ).map dW).length=pre.length+nZ.length+2:=by simp;omega
  have n1:D.nth (((pre++[b])++a::nZ).map dW) (pre.length+1)=dW a:=Lq (by simp) _ (by simp);have n2:D.nth (((pre++[b])++a::nZ).map dW) pre.length=dW b:=Lq (by simp) _ (by simp);have n3: ∀u,D.nth ((((pre++[b])++a::nZ).map dW).set (pre.length+1) u) pre.length=dW b:=λu=>by rw[<-n2];simp only[D.nth,zab];rw[zaY (by omega)]
  have hc:(((pre++[b]).length:Nat):Int)=(pre.length:Int)+1:=by simp
  rw[hc];rw[n1,n2];simp only[zbi,hlen,n3];have dl: ∀x,x<pre.length+nZ.length+2->decide (x<pre.length+nZ.length+2)=true:=λx h=>kY h;refine gh (kY (by omega)) ?_
  repeat (first
   |refine ao (kY (show _/\_ from⟨by omega,by omega⟩)) ?_
   |refine ao (kY (show _<_ by omega)) ?_
   |refine ao (qdI _) ?_)
  refine az (λbz=> ?_) λbz=> ?_
  ·repeat (first
    |refine ao (kY (show _/\_ from⟨by omega,by omega⟩)) ?_
    |refine ao (kY (show _<_ by omega)) ?_
    |refine ao (qdI _) ?_)
   have hl':GI a b=true:=bz;refine⟨pre.length,by simp,(pre,b::nZ),?_,⟨hm,by simp only[zam];omega,?_⟩,rfl⟩
   ·have hsw:=S2 dW pre nZ b a (dW b) (dW a) rfl rfl;show _=imI z l n v (pre++a::b::nZ) (o.length+1) i (pre.length:Int);have hk3:(pre.length:Int)+1-1=(pre.length:Int):=by omega
    rw[hk3];simp only[imI,NL];rw[<-hsw];simp only[zaF,zck];rfl
   simp only;rw[<-hr,List.reverse_append,List.reverse_singleton,zck,nV,zaq hl'];simp
  have hl': ¬GI a b=true:=by rw[show GI a b=false from bz];simp
  show _=_;rw[List.reverse_append,List.reverse_singleton,zck,nV,zap hl'] at hr;rw[<-hr];simp)
 (by rintro s ae ⟨z,l,n,v,o,a,i,k,rfl,⟨hk,hm⟩,hp⟩;subst hk;refine⟨(z,l,n,v,o,a,i),(o,[]),rfl,⟨hm,by simp,by simp[ct]⟩,?_⟩;rintro x rfl;exact hp)
theorem YF:LD X 30 4 (ah (aL 30 4) qd4):=LD.par (H:=[(57,hPa),(58,JA)]) (hk:=[(9,ah (aL 30 9) qd3)]) (by kernel_rfl) (by kernel_rfl) (.cons qij (.cons SP .nil)) (.cons YE .nil)
 (A:=List Pl×List aq) (B:=Bool×Int) (λ⟨T,v⟩ ⟨z,i⟩=>imH z (aQ T v) (aQ T v).length v (cc GI (((aQ T v).take i.toNat).map (dQ T v))) (cc GI (((aQ T v).take i.toNat).map (dQ T v))).length i)
 (λ⟨T,v⟩ ⟨_,i⟩=>T.length<=1000/\Rt T/\v.length<=1000000/\0<=i/\i<=(aQ T v).length)
 (λ⟨T,v⟩ ⟨_,i⟩=>((aQ T v).length-i).toNat)
 (λ⟨T,v⟩ x=>x=(.exit 0,⟨77,[(6,.sl 0 0 (bY T v).length)],NL 0 (bY T v)⟩))
 (by
  rintro⟨T,v⟩ ⟨z,i⟩ ⟨hm,hT,hv,h0,hi⟩;dsimp only at*
  have hsL:(aQ T v).length<=T.length:=za2 _ _
  (rw[<-qgG];delta Z6S Zu Zh qw Z6 Z5 Zd fZ HA Zm VH Z6E oW Zv fM iw qx Zb nf JB JC JD Z6U OJ gk mq fB fD fC fw fy nc iP JE jA DY Zq OI SR SS SU Yx Yy Yz Z6w OG oV qh Hy mZ Yr)
  refine a8 (λh=> ?_) λh=> ?_
  ·have bK:i.toNat<(aQ T v).length:=by omega
   have hpm:(aQ T v).getD i.toNat s7∈aQ T v:=zaz (getD_some bK s7);have lC:((aQ T v).take (i+1).toNat).map (dQ T v)=((aQ T v).take i.toNat).map (dQ T v)++[dQ T v ((aQ T v).getD i.toNat s7)]:=by rw[show(i+1).toNat=i.toNat+1 by omega,zbo,getD_some bK s7];simp
   have nb:(cc GI (((aQ T v).take i.toNat).map (dQ T v))).length=i.toNat:=by rw[(cI _).length_eq,zaa,zat];omega
   have hso:cc GI (((aQ T v).take (i+1).toNat).map (dQ T v))=ct GI (cc GI (((aQ T v).take i.toNat).map (dQ T v))) (dQ T v ((aQ T v).getD i.toNat s7)):=by rw[lC];unfold cc;rw[zbd];rfl
   rw[iO bK];generalize (aQ T v).getD i.toNat s7=p at hpm hso;generalize cc GI (((aQ T v).take i.toNat).map (dQ T v))=o at nb hso;have KX:(cc GI (((aQ T v).take (i+1).toNat).map (dQ T v))).length=o.length+1:=by rw[hso,(gR _ _).length_eq];simp
   have fit:decide ((-9223372036854775808:Int)<=i+(1:Int)/\i+(1:Int)<=(9223372036854775807:Int))=true:=gB (by omega) (by omega);refine aP ⟨h0,h⟩ (ao (kY (by rw[zaa];exact bK)) (ao (ia p) ⟨T,v,p,by rw[wW];rfl,rfl,⟨hm,hT,hpm⟩,v,p.1,rfl,rfl,hv,ao ?_ (ao ?_ ⟨true,aQ T v,(aQ T v).length,v,o,dQ T v p,i,((o.length+1:Nat):Int)-1,?_,⟨by omega,by omega⟩,ao fit ⟨((aQ T v).length-(i+1)).toNat,by omega,(true,i+1),?_,⟨hm,hT,hv,by simp only;omega,by simp only;omega⟩,rfl⟩⟩)⟩))
   ·simp[aJ];omega
   ·refine kY (show(-9223372036854775808:Int)<=((o.length+1:Nat):Int)-1/\((o.length+1:Nat):Int)-1<=9223372036854775807 from⟨by omega,by omega⟩)
   ·have e2:(o++[dQ T v p]).map dW=(o.map dW).take o.length++[dW (dQ T v p)]:=by rw[zan (by simp)];simp
    rw[e2];rfl
   simp only;rw[KX,hso];rfl
  have sX:(aQ T v).take i.toNat=aQ T v:=zan (by omega);rw[sX];rfl)
 (by rintro s ae ⟨T,v,rfl,⟨hm,hT,hv⟩,hp⟩;refine⟨(T,v),(false,0),rfl,⟨hm,hT,hv,by simp,by simp⟩,?_⟩;rintro x rfl;exact hp)
theorem S4:FD X 30 Dr:=FD.mk (H:=[(56,JF)]) (hk:=[(4,ah (aL 30 4) qd4)]) (by kernel_rfl) (.cons S3 .nil) (.cons YF .nil) (by
 intro ps R ae hh;obtain⟨l,v,rfl,rfl,⟨hm,hv⟩,hp⟩:=hh
 (rw[<-qil];delta jA DY OL Z6I Z3 uG rI Z6W fM iw qx gk mq n5 Zq fZ ij)
 have htl:=qg l;exact⟨l,v,rfl,rfl,⟨by omega,hv⟩,ly l,v,rfl,⟨by omega,Dq l,hv⟩,hp⟩)
end
abbrev Td:=aq×Pl
def ltT(a b:Td):Bool:=lz a.1 b.1
def ltN(a b:Pl):Bool:=lz a.1 b.1
def VI(o:List Td)(t:Td):List Td:=if(o.any λx=>x.1==t.1)=true then o else ct ltT o t
def Ah(a:List aq)(p:List Pl):List Td:=(a.zip p).foldl VI []
def S5(o:List Pl)(t:Td):List Pl:=
 if t.2.1=aD\/within o t.2.2.1 t.2.1=true then o
 else if 0<=eJ o t.2.1 then o.set (eJ o t.2.1).toNat (t.2.1,t.2.2.1,t.2.2.2.1,(o.getD (eJ o t.2.1).toNat s7).2.2.2) else ct ltN o t.2
def HE(l:List Td):List Pl:=l.foldl S5 []
def Ai(x:Pl)(o:bs):List Pl:=if o.kind=0/\o.node=x.1 then [(x.1,x.2.1,x.2.2.1,o.dir)] else []
def mdG(x:Pl)(g:av):List Pl:=g.ops.flatMap (Ai x)
def D0(l:List av)(x:Pl):List Pl:=l.flatMap (mdG x)
def HF(l:List av)(p:List Pl):List Pl:=p.flatMap (D0 l)
def S6(gone:List aT)(o:List aq)(d:aT):List aq:=if d∈gone\/d.1∈o then o else ct lz o d.1
def Dt(hv gone:List aT):List aq:=hv.foldl (S6 gone) []
theorem YG(o:List Td)(t:Td):(VI o t).length<=o.length+1:=by
 unfold VI;split
 ·omega
 rw[(gR _ _).length_eq];simp
theorem Lr: ∀(l o:List Td),(l.foldl VI o).length<=o.length+l.length
 | [],_=>by simp
 |x::r,o=>by have:=Lr r (VI o x);have:=YG o x;simp only[za4,zam];omega
theorem n9(a:List aq)(p:List Pl):(Ah a p).length<=a.length:=by have:=Lr (a.zip p) [];simp only[List.length_zip,zay] at this;unfold Ah;omega
theorem YH(o:List Pl)(t:Td):(S5 o t).length<=o.length+1:=by
 unfold S5;split
 ·omega
 split
 ·simp
 rw[(gR _ _).length_eq];simp
theorem Ls: ∀(l:List Td) (o:List Pl),(l.foldl S5 o).length<=o.length+l.length
 | [],_=>by simp
 |x::r,o=>by have:=Ls r (S5 o x);have:=YH o x;simp only[za4,zam];omega
theorem qj(l:List Td):(HE l).length<=l.length:=by simpa [HE] using Ls l []
theorem YI(g:List aT)(o:List aq)(d:aT):(S6 g o d).length<=o.length+1:=by
 unfold S6;split
 ·omega
 rw[(gR _ _).length_eq];simp
theorem GP(g:List aT): ∀(l:List aT) (o:List aq),(l.foldl (S6 g) o).length<=o.length+l.length
 | [],_=>by simp
 |x::r,o=>by have:=GP g r (S6 g o x);have:=YI g o x;simp only[za4,zam];omega
theorem Lt(hv g:List aT):(Dt hv g).length<=hv.length:=by simpa [Dt] using GP g hv []
theorem YJ{s:aO}{k n:Int}{o:bs}(h:mS s k o=some n):0<=n:=by
 unfold mS at h;split at h
 ·cases h
 split at h
 ·split at h<;>cases h;decide
 split at h
 ·split at h<;>cases h;decide
 split at h
 ·split at h<;>cases h;decide
 split at h
 ·split at h
  next hh=>cases h;have:=hh.2.2.2;unfold ti at this;rw[zad,zal] at this;omega
  cases h
 split at h
 ·split at h<;>cases h;decide
 cases h
theorem GQ{s:aO}{k n:Int}{o:bs}(h:mS s k o=some n)(h0:o.kind=0):o.node=(s.1,s.2,k)/\n=1:=by
 unfold mS at h;rw[zaq h0] at h;split at h
 ·cases h
 split at h
 next hh=>cases h;exact⟨hh.1,rfl⟩
 cases h
theorem Lu(x:Pl)(o:bs):(Ai x o).length<=1:=by unfold Ai;split<;>simp
theorem Lv{s:aO}(x:Pl): ∀(l:List bs) (k:Int),nW s k l=true->(l.flatMap (Ai x)).length<=1/\(l.flatMap (Ai x)≠[]-> ∃j,k<=j/\x.1=(s.1,s.2,j))
 | [],_,_=>⟨by simp,λh=>absurd rfl h⟩
 |o::r,k,h=>by
  unfold nW at h;split at h
  next n hn=>
   obtain⟨h1,h2⟩:=Lv x r _ h;have h3:=YJ hn;rw[zbB];by_cases ho:o.kind=0/\o.node=x.1
   ·obtain⟨h4,h5⟩:=GQ hn ho.1;have hx:x.1=(s.1,s.2,k):=by rw[<-ho.2,h4]
    have hr:r.flatMap (Ai x)=[]:=zaK λhr=>by
     obtain⟨j,h6,h7⟩:=h2 hr;rw[hx] at h7;injection h7 with _ h7
     injection h7 with _ h7
     omega
    rw[hr,zbl];exact⟨Lu x o,λ_=>⟨k,zbI _,hx⟩⟩
   have:Ai x o=[]:=by unfold Ai;rw[zap ho]
   rw[this,zaT];exact⟨h1,λhr=>by obtain⟨j,h6,h7⟩:=h2 hr;exact⟨j,by omega,h7⟩⟩
  cases h
theorem Lw{l:List av}(x:Pl):(∀g∈l,dC g=true)->(l.map (·.s)).Nodup->(D0 l x).length<=1/\(D0 l x≠[]-> ∃g∈l,g.s=Nj x.1):=by
 induction l with
 |nil=>exact λ_ _=>⟨by simp[D0],λh=>absurd rfl h⟩
 |cons g r ih=>
  intro hc hn;rw[zaO,za8] at hn;obtain⟨h1,h2⟩:=ih (λy hy=>hc y (.tail _ hy)) hn.2;obtain⟨h3,h4⟩:=Lv x g.ops 0 (Dp (hc g (.head _)));have e:D0 (g::r) x=g.ops.flatMap (Ai x)++D0 r x:=rfl;rw[e];by_cases hg:g.ops.flatMap (Ai x)=[]
  ·rw[hg,zaT];exact⟨h1,λh=>by obtain⟨y,hy,e⟩:=h2 h;exact⟨y,.tail _ hy,e⟩⟩
  obtain⟨j,_,hx⟩:=h4 hg;have hs:g.s=Nj x.1:=by rw[hx]
  have hr:D0 r x=[]:=zaK λhr=>by obtain⟨y,hy,e⟩:=h2 hr;exact hn.1 (zaX.2 ⟨y,hy,by rw[e,hs]⟩)
  rw[hr,zbl];exact⟨h3,λ_=>⟨g,.head _,hs⟩⟩
theorem qk{l:List av}(hc: ∀g∈l,dC g=true)(hn:(l.map (·.s)).Nodup): ∀p:List Pl,(HF l p).length<=p.length
 | []=>by simp[HF]
 |x::r=>by have h1:=qk hc hn r;have h2:=(Lw x hc hn).1;have e:HF l (x::r)=D0 l x++HF l r:=rfl;rw[e,zaj,zam];omega
def ki(d:aT):D:= .agg [iE d.1.1,iE d.1.2.1,iE d.1.2.2,iE d.2.1,iE d.2.2]
abbrev iR(l:List aT):P:= .d (.sl 5 (l.map ki))
abbrev qim(x:aT):Obj:= .box 95 [iD x.1.1,iD x.1.2.1,iD x.1.2.2,iD x.2.1,iD x.2.2]
abbrev qgH(z:Bool)(l:List aT):Obj:= .arr 95 z (l.map ki)
abbrev fO(z:Bool)(l:List aq):Obj:= .arr 50 z (l.map cb)
abbrev pQ(z:Bool)(l:List Pl):Obj:= .arr 93 z (l.map eV)
abbrev YK(l:List aT)(x:aT)(i:Int):S:=⟨18,[(0,iR l),(3,.ref 0 0 0),(5,iD i)],[(0,⟨0,none,qim x⟩)]⟩
def Z74(x:aT):List (Nat×En):=[(0,En.mk 0 none (Obj.box (95:TypeId) [P.d (D.int .i64 (Prod.fst (Prod.fst x))),P.d (D.int .i64 (Prod.fst (Prod.snd (Prod.fst x)))),P.d (D.int .i64 (Prod.snd (Prod.snd (Prod.fst x)))),P.d (D.int .i64 (Prod.fst (Prod.snd x))),P.d (D.int .i64 (Prod.snd (Prod.snd x)))]))]
def uM(l:List aT):P:=P.d (D.sl 5 (List.map ki l))
def sd(l:List aT):Nat×P:=(0,uM l)
def yU(l:List aT)(i:Int):D:=D.nth (List.map ki l) (Zb i)
noncomputable def NN(l:List aT)(i:Int):Bool:=cT PR (95:TypeId) (yU l i)
def NP(i:Int)(l:List aT):Bool:=decide ((0:Int)<=i/\i<(↑(List.length (List.map ki l)):Int))
def YL(i:Int)(l:List aT):Bool:=decide (i<(↑(List.length (List.map ki l)):Int))
theorem qbh(l:List aT)(x:aT)(i:Int)(ae:PX×S->Prop):(bif YL i l then ob (NP i l) (ob (NN l i) (bif D.aj (D.ax (yU l i) 0)==Prod.fst (Prod.fst x)&&(D.aj (D.ax (yU l i) 1)==Prod.fst (Prod.snd (Prod.fst x))&&true)&&(D.aj (D.ax (yU l i) 2)==Prod.snd (Prod.snd (Prod.fst x))&&true)&&(D.aj (D.ax (yU l i) 3)==Prod.fst (Prod.snd x)&&(D.aj (D.ax (yU l i) 4)==Prod.snd (Prod.snd x)&&true)&&true) then ae (PX.ret,S.mk 18 GK []) else ob (Zd i) (ae (PX.normal,S.mk 18 (sd l::dv::Zi i) (Z74 x))))) else ae (PX.exit 0,S.mk 18 [] []))=(aC [] [] 59 2 (YK l x i)) ae:=by kernel_rfl
def qd5:S->K (PX×S):=λs ae=> ∃l x,s=YK l x 0/\l.length<=1000000/\(x∈l->ae (.ret,⟨18,[(4,.d (.bool true))],[]⟩))/\(x∉l->ae (.exit 0,⟨18,[],[]⟩))
def BG(ar:List aT):Prop:=List.length ar<=1000000
theorem qin(l:List aT)(x:aT)(ae:P×List (Nat×En)->Prop):(∃(ar:List aT) (a7:aT),S.mk 18 (sd l::dv::ZB) (Z74 x)=S.mk 18 (sd ar::dv::ZB) (Z74 a7)/\BG ar/\(a7∈ar->ZD ae)/\(¬a7∈ar->Z1 ae))=(aK [] [(2,ah (aL 59 2) qd5)] 59 [iR l,.d (ki x)] []) ae:=by kernel_rfl
def S7:bh:=λps R ae=> ∃l x,ps=[iR l,.d (ki x)]/\R=[]/\l.length<=1000000/\ ∀b,b=decide (x∈l)->ae (.d (.bool b),[])
abbrev qgI(x:aO):Obj:= .box 48 [iD x.1,iD x.2]
abbrev YM(l:List aO)(x:aO)(i:Int):S:=⟨18,[(0,lB l),(3,.ref 0 0 0),(5,iD i)],[(0,⟨0,none,qgI x⟩)]⟩
def Z76(l:List aO)(i:Int)(x:aO):Bool:=D.aj (D.ax (D.nth (List.map eD l) (Zb i)) 0)==Prod.fst x&&(D.aj (D.ax (D.nth (List.map eD l) (Zb i)) 1)==Prod.snd x&&true)
theorem qbi(l:List aO)(x:aO)(i:Int)(ae:PX×S->Prop):(bif decide (i<(↑(Ab l):Int)) then ob (Z3S i l) (ob (Jp l i) (bif Z76 l i x then ae (PX.ret,S.mk 18 ((0,qv l)::GK) []) else ob (Zd i) (ae (PX.normal,S.mk 18 ((0,qv l)::dv::Zi i) [(0,Jw x)])))) else ae (PX.exit 0,S.mk 18 [(0,qv l)] []))=(aC [] [] 27 2 (YM l x i)) ae:=by kernel_rfl
abbrev YN(l:List aO)(x:aO)(i:Int):S:=⟨18,[(0,.sl 0 0 l.length),(3,.ref 1 0 0),(5,iD i)],[(0,⟨0,some 0,Ag false l⟩),(1,⟨0,none,qgI x⟩)]⟩
def VJ(l:List aO):Nat×En:=(0,En.mk 0 (some 0) (Obj.arr (48:TypeId) false (List.map eD l)))
def JI(l:List aO):List (Nat×En):=[VJ l]
def zt(l:List aO):P:=P.sl 0 0 (jO l)
def Z77(i:Int)(l:List aO):Bool:=decide (Zb i<Ab l)
theorem S8(l:List aO)(x:aO)(i:Int)(ae:PX×S->Prop):(bif decide (i<(↑(jO l):Int)) then ob (decide ((0:Int)<=i/\i<(↑(jO l):Int))) (ob (Z77 i l) (ob (Jp l i) (bif Z76 l i x then ae (PX.ret,S.mk 18 ((0,zt l)::GK) (JI l)) else ob (Zd i) (ae (PX.normal,S.mk 18 ((0,zt l)::tO::Zi i) [VJ l,(1,Jw x)]))))) else ae (PX.exit 0,S.mk 18 [(0,zt l)] (JI l)))=(aC [] [] 27 2 (YN l x i)) ae:=by kernel_rfl
def qd6:S->K (PX×S):=λs ae=> ∃l x,s=YM l x 0/\l.length<=1000000/\(x∈l->ae (.ret,⟨18,[(0,lB l),(4,.d (.bool true))],[]⟩))/\(x∉l->ae (.exit 0,⟨18,[(0,lB l)],[]⟩))
def S9:S->K (PX×S):=λs ae=> ∃l x,s=YN l x 0/\l.length<=1000000/\(x∈l->ae (.ret,⟨18,[(0,.sl 0 0 l.length),(4,.d (.bool true))],[(0,⟨0,some 0,Ag false l⟩)]⟩))/\(x∉l->ae (.exit 0,⟨18,[(0,.sl 0 0 l.length)],[(0,⟨0,some 0,Ag false l⟩)]⟩))
def vZ(ar:List aO):Prop:=jO ar<=1000000
def Z7b(ar:List aO)(a7:aO):S:=S.mk 18 ((0,qv ar)::dv::ZB) [(0,Jw a7)]
theorem qio(l:List aO)(x:aO)(ae:P×List (Nat×En)->Prop):(∃(ar:List aO) (a7:aO),Z7b l x=Z7b ar a7/\vZ ar/\(a7∈ar->ZD ae)/\(¬a7∈ar->Z1 ae))=(aK [] [(2,ah (aL 27 2) qd6)] 27 [lB l,.d (eD x)] []) ae:=by kernel_rfl
def Z7d(ar:List aO)(a7:aO):S:=S.mk 18 ((0,zt ar)::tO::ZB) [VJ ar,(1,Jw a7)]
theorem qgJ(l:List aO)(x:aO)(ae:P×List (Nat×En)->Prop):(∃(ar:List aO) (a7:aO),Z7d l x=Z7d ar a7/\vZ ar/\(a7∈ar->ae (ZC,JI ar))/\(¬a7∈ar->ae (P.d Z0,JI ar)))=(aK [] [(2,ah (aL 27 2) S9)] 27 [.sl 0 0 l.length,.d (eD x)] [(0,⟨0,some 0,Ag false l⟩)]) ae:=by kernel_rfl
def Ta:bh:=λps R ae=> ∃l x,ps=[lB l,.d (eD x)]/\R=[]/\l.length<=1000000/\ ∀b,b=decide (x∈l)->ae (.d (.bool b),[])
def GR:bh:=λps R ae=> ∃l x,ps=[.sl 0 0 l.length,.d (eD x)]/\R=[(0,⟨0,some 0,Ag false l⟩)]/\l.length<=1000000/\ ∀b,b=decide (x∈l)->ae (.d (.bool b),[(0,⟨0,some 0,Ag false l⟩)])
abbrev YO(l:List aq)(x:aq)(i:Int):S:=⟨18,[(0,.sl 0 0 l.length),(3,.ref 1 0 0),(5,iD i)],[(0,⟨0,some 0,fO false l⟩),(1,⟨0,none,.box 50 [iD x.1,iD x.2.1,iD x.2.2]⟩)]⟩
def Z7h(l:List aq):Nat×En:=(0,En.mk 0 (some 0) (Obj.arr (50:TypeId) false (fM l)))
def Tb(l:List aq):List (Nat×En):=[Z7h l]
def oE(l:List aq):P:=P.sl 0 0 (gk l)
def Tc(i:Int)(l:List aq):Bool:=decide (Zb i<oQ l)
def tU(l:List aq):Int:=(↑(gk l):Int)
theorem Te(l:List aq)(x:aq)(i:Int)(ae:PX×S->Prop):(bif decide (i<tU l) then ob (decide ((0:Int)<=i/\i<tU l)) (ob (Tc i l) (ob (wR l i) (bif Z5O l i x then ae (PX.ret,S.mk 18 ((0,oE l)::GK) (Tb l)) else ob (Zd i) (ae (PX.normal,S.mk 18 ((0,oE l)::tO::Zi i) (Z7h l::SK x)))))) else ae (PX.exit 0,S.mk 18 [(0,oE l)] (Tb l)))=(aC [] [] 58 2 (YO l x i)) ae:=by kernel_rfl
def Tf:S->K (PX×S):=λs ae=> ∃l x,s=YO l x 0/\l.length<=1000000/\(x∈l->ae (.ret,⟨18,[(0,.sl 0 0 l.length),(4,.d (.bool true))],[(0,⟨0,some 0,fO false l⟩)]⟩))/\(x∉l->ae (.exit 0,⟨18,[(0,.sl 0 0 l.length)],[(0,⟨0,some 0,fO false l⟩)]⟩))
def Z7j(ar:List aq)(a7:aq):S:=S.mk 18 ((0,oE ar)::tO::ZB) (Z7h ar::SK a7)
theorem qgK(l:List aq)(x:aq)(ae:P×List (Nat×En)->Prop):(∃(ar:List aq) (a7:aq),Z7j l x=Z7j ar a7/\mq ar/\(a7∈ar->ae (ZC,Tb ar))/\(¬a7∈ar->ae (P.d Z0,Tb ar)))=(aK [] [(2,ah (aL 58 2) Tf)] 58 [.sl 0 0 l.length,.d (cb x)] [(0,⟨0,some 0,fO false l⟩)]) ae:=by kernel_rfl
def Tj:bh:=λps R ae=> ∃l x,ps=[.sl 0 0 l.length,.d (cb x)]/\R=[(0,⟨0,some 0,fO false l⟩)]/\l.length<=1000000/\ ∀b,b=decide (x∈l)->ae (.d (.bool b),[(0,⟨0,some 0,fO false l⟩)])
abbrev lvI(h g:List aT)(o:List aq)(n:Nat)(i k:Int):S:=⟨72,[(0,iR h),(1,iR g),(5,.sl 0 0 n),(6,iD i),(8,iD k)],[(0,⟨0,none,fO false o⟩)]⟩
def zu(o:List aq):En:=En.mk 0 none (Obj.arr (50:TypeId) false (fM o))
def q6(o:List aq):List (Nat×En):=[(0,zu o)]
def BH(i:Int):List (Nat×P):=[ei i]
def VK(o:List aq)(k:Int):List D:=List.set (fM o) (Zb k) (D.bc (D.agg (X2 o k)) (Z4e o k))
def Z7n(o:List aq)(k:Int):En:=En.mk 0 none (Obj.arr (50:TypeId) false (List.set (VK o k) (Z8 k) (D.bc (D.agg [D.int .i64 (D.aj (D.ax (D.nth (VK o k) (Z8 k)) 0)),D.int .i64 (D.aj (D.ax (D.nth (VK o k) (Z8 k)) 1)),D.int .i64 (D.aj (D.ax (D.nth (VK o k) (Z8 k)) 2))]) (X2 o k))))
def wX(g:List aT):Nat×P:=(1,uM g)
def Z7r(o:List aq)(k:Int):List P:=[P.d (D.agg (X2 o k)),P.d (D.agg (Z4e o k))]
def Z7k(k:Int)(o:List aq):Bool:=decide (Z8 k<oQ o)
theorem qgL(h g:List aT)(o:List aq)(n:Nat)(i k:Int)(ae:PX×S->Prop):(bif Zk k then ob (mZ k n) (ob (Tc k o) (ob (wR o k) (ob (Z7 k) (ob (tT k n) (ob (Z7k k o) (ob (X1 o k) (∃(t:Int) (r:Int) (aX:Int) (t':Int) (r':Int) (i':Int),Z7r o k=P.d (D.agg (Zm t::Zm r::Zx aX))::ZM t' r' i'/\Zq/\bif SX t r aX t' r' i' then ob (Z7 k) (ob (Z7 k) (ob (tT k n) (ob (Z7k k o) (ob (X1 o k) (ob (mZ k n) (ob (Tc k o) (ob (wR o k) (ob (mZ k n) (ob (Tc k o) (ob (wR o k) (ob (tT k n) (ob (decide (Z8 k<List.length (VK o k))) (ob (cT PR (50:TypeId) (D.nth (VK o k) (Z8 k))) (ob (Z7 k) (ae (PX.normal,S.mk 72 [sd h,wX g,Zv n,ei i,(8,Zl k)] [(0,Z7n o k)])))))))))))))))) else ae (PX.exit 2,S.mk 72 (sd h::wX g::Zv n::BH i) (q6 o))))))))) else ae (PX.exit 2,S.mk 72 (sd h::wX g::Zv n::BH i) (q6 o)))=(aC [(55,iN)] [] 31 9 (lvI h g o n i k)) ae:=by kernel_rfl
abbrev lvH(h g:List aT)(o:List aq)(i:Int):S:=⟨72,[(0,iR h),(1,iR g),(5,.sl 0 0 o.length),(6,iD i)],[(0,⟨0,none,fO false o⟩)]⟩
def qd7:S->K (PX×S):=λst ae=> ∃h g o x n i k,st=lvI h g (o++[x]) n i k/\(k=(o.length:Int)/\n=o.length+1/\o.length<=1000000)/\ ∀o',o'=ct lz o x->ae (.exit 2,lvH h g o' i)
def Z7y(aZ:List aq)(x:aq):En:=En.mk 0 none (Obj.arr (50:TypeId) false (List.map cb (aZ++[x])))
def qA(k:Int):Nat×P:=(8,P.d (Zm k))
def HG(k:Int):List (Nat×P):=[qA k]
def Z7u(h:List aT)(i:Int):D:=D.agg [D.int .i64 (D.aj (D.ax (yU h i) 0)),D.int .i64 (D.aj (D.ax (yU h i) 1)),D.int .i64 (D.aj (D.ax (yU h i) 2))]
def Z7v(o:List aq)(h:List aT)(i:Int):Nat:=gk o+List.length [Z7u h i]
def Z7t(i:Int)(ae:PX×S->Prop)(h:List aT)(g:List aT)(o:List aq):Prop:=ob (Zd i) (ae (PX.normal,S.mk 72 (sd h::wX g::(5,oE o)::Zt i) (q6 o)))
def Z7z(h:List aT)(i:Int):List D:=[D.int .i64 (D.aj (D.ax (yU h i) 3)),D.int .i64 (D.aj (D.ax (yU h i) 4))]
def Z7A(g:List aT)(h:List aT)(i:Int):List P:=[uM g,P.d (D.agg (D.int .i64 (D.aj (D.ax (yU h i) 0))::D.int .i64 (D.aj (D.ax (yU h i) 1))::D.int .i64 (D.aj (D.ax (yU h i) 2))::Z7z h i))]
theorem qbj(h g:List aT)(o:List aq)(i:Int)(ae:PX×S->Prop):(bif YL i h then ob (NP i h) (ob (NN h i) (ob (NP i h) (ob (NN h i) (∃(l:List aT) (x:aT),Z7A g h i=[uM l,P.d (D.agg [D.int .i64 (Prod.fst (Prod.fst x)),D.int .i64 (Prod.fst (Prod.snd (Prod.fst x))),D.int .i64 (Prod.snd (Prod.snd (Prod.fst x))),D.int .i64 (Prod.fst (Prod.snd x)),D.int .i64 (Prod.snd (Prod.snd x))])]/\Zq/\BG l/\ ∀(b:Bool),b=decide (x∈l)->bif b then Z7t i ae h g o else∃(l:List aq) (x:aq),[oE o,P.d (Z7u h i)]=oE l::iP x/\Tb o=Tb l/\mq l/\ ∀(b:Bool),b=decide (x∈l)->bif b then ob (Zd i) (ae (PX.normal,S.mk 72 (sd h::wX g::(5,oE o)::Zt i) (q6 l))) else ob (Nat.ble (gk o) (oQ l)&&aJ (Z7v o h i) 24) (ob (decide (Z5<=(↑(Z7v o h i):Int)-(1:Int)/\(↑(Z7v o h i):Int)-(1:Int)<=Z6)) (∃(GS:List aT) (dU:List aT) (aZ:List aq) (x:aq) (n:Nat) (aX:Int) (k:Int),S.mk 72 [sd h,wX g,(5,P.sl 0 0 (Z7v o h i)),ei i,(8,P.d (D.int .i64 ((↑(Z7v o h i):Int)-(1:Int))))] [(0,En.mk 0 none (Obj.arr (50:TypeId) false (List.take (gk o) (fM l)++[Z7u h i])))]=S.mk 72 (sd GS::wX dU::Zv n::ei aX::HG k) [(0,Z7y aZ x)]/\(k=tU aZ/\n=gk aZ+1/\mq aZ)/\ ∀(o':List aq),o'=ct lz aZ x->Z7t aX ae GS dU o')))))) else ae (PX.exit 0,S.mk 72 [(5,oE o)] (q6 o)))=(aC [(59,S7),(58,Tj)] [(9,ah (aL 31 9) qd7)] 31 3 (lvH h g o i)) ae:=by kernel_rfl
def gLv:S->K (PX×S):=λs ae=> ∃h g,s=lvH h g [] 0/\(h.length<=1000000/\g.length<=1000000)/\ ∀o,o=Dt h g->ae (.exit 0,⟨72,[(5,.sl 0 0 o.length)],[(0,⟨0,none,fO false o⟩)]⟩)
def VL:En:=En.mk 0 none (Obj.arr (50:TypeId) false [])
def Tk:List (Nat×P):=(5,ZE)::DZ
def Z7D(GS:List aT)(dU:List aT):S:=S.mk 72 (sd GS::wX dU::Tk) [(0,VL)]
theorem qip(h g:List aT)(ae:P×List (Nat×En)->Prop):(∃(GS:List aT) (dU:List aT),Z7D h g=Z7D GS dU/\(BG GS/\BG dU)/\ ∀(o:List aq),o=Dt GS dU->ae (oE o,q6 o))=(aK [] [(3,ah (aL 31 3) gLv)] 31 [iR h,iR g] []) ae:=by kernel_rfl
def Tm:bh:=λps R ae=> ∃h g,ps=[iR h,iR g]/\R=[]/\(h.length<=1000000/\g.length<=1000000)/\ ∀o,o=Dt h g->ae (.sl 0 0 o.length,[(0,⟨0,none,fO false o⟩)])
theorem JJ(d:aT):cT PR 95 (ki d)=true:=by kernel_rfl
theorem qiq(y x:aT):(y.1.1==x.1.1&&(y.1.2.1==x.1.2.1&&true)&&(y.1.2.2==x.1.2.2&&true)&&(y.2.1==x.2.1&&(y.2.2==x.2.2&&true)&&true))=(y==x):=by rw[zbh];obtain⟨⟨a,b,c⟩,d,e⟩:=y;obtain⟨⟨a',b',c'⟩,d',e'⟩:=x;simp[and_assoc]
theorem tC{α:Type}[BEq α][LawfulBEq α] {l:List α}{x:α}{i:Nat}(hi:i<l.length)(ht:(l[i]==x)=true):x∈l:=by rw[<-eq_of_beq ht];exact zar hi
theorem tD{α:Type}[BEq α][LawfulBEq α] {l:List α}{x:α}(h: ∀j (hj:j<l.length),(l[j]==x)=false):x∉l:=λhx=>by obtain⟨j,hj,rfl⟩:=zaN hx;have:=h j hj;simp at this
section
variable{X:XF}
theorem YP:LD X 59 2 (ah (aL 59 2) qd5):=LD.find (H:=[]) (hk:=[]) (by kernel_rfl) (by kernel_rfl) .nil .nil
 (A:=List aT×aT) (λa k=>YK a.1 a.2 k) (·.1) (λa _ x=>x==a.2) (λa=>a.1.length<=1000000) (λ_ _=>(.ret,⟨18,[(4,.d (.bool true))],[]⟩)) (λ_=>(.exit 0,⟨18,[],[]⟩)) (λ_ _ h=>by cases h) (λ_ h=>by cases h)
 (by
  rintro⟨l,x⟩ k ae dy hm h0 hk ht hf;dsimp only at*
  (rw[<-qbh];delta Z74 Zh Zi dP dv uM sd Z6 Z5 Zd ZC GK Zb yU NN NP YL)
  have e1:D.nth (l.map ki) k.toNat=ki l[k.toNat]:=aG _ _ _ dy;have bK:k.toNat<(l.map ki).length:=by rw[zaa];exact dy
  rw[e1];have v:=qiq l[k.toNat] x;generalize l[k.toNat]=y at*
  rw[<-v] at ht hf;simp only[YK,zaa] at hf bK⊢;exact bV hk (ak ⟨h0,hk⟩ (ao (JJ _) (az (λh=>ht h) λh=>ak (by omega) (hf h)))))
 (by
  rintro⟨l,x⟩ k ae hm hk hp;dsimp only at*
  (rw[<-qbh];delta Z74 Zh Zi dP dv uM sd Z6 Z5 Zd ZC GK Zb yU NN NP YL)
  exact oC (by first |omega | (simp only[zaa];omega)) hp)
 (by rintro s ae ⟨l,x,rfl,hm,h1,h2⟩;exact⟨(l,x),rfl,hm,λ_ hi _ ht _=>h1 (tC hi ht),λh=>h2 (tD h)⟩)
theorem qbk:FD X 59 S7:=FD.mk (H:=[]) (hk:=[(2,ah (aL 59 2) qd5)]) (by kernel_rfl) .nil (.cons YP .nil) (by
 intro ps R ae hh;obtain⟨l,x,rfl,rfl,hm,hp⟩:=hh
 (rw[<-qin];delta Z0 Z1 ZC ZD BG Z74 Z3 ZB dP dv uM sd)
 exact⟨l,x,rfl,hm,λh=>hp _ (by simp[h]),λh=>hp _ (by simp[h])⟩)
theorem YQ:LD X 27 2 (ah (aL 27 2) qd6):=LD.find (H:=[]) (hk:=[]) (by kernel_rfl) (by kernel_rfl) .nil .nil
 (A:=List aO×aO) (λa k=>YM a.1 a.2 k) (·.1) (λa _ x=>x==a.2) (λa=>a.1.length<=1000000) (λa _=>(.ret,⟨18,[(0,lB a.1),(4,.d (.bool true))],[]⟩)) (λa=>(.exit 0,⟨18,[(0,lB a.1)],[]⟩)) (λ_ _ h=>by cases h) (λ_ h=>by cases h)
 (by
  rintro⟨l,x⟩ k ae dy hm h0 hk ht hf;dsimp only at*
  (rw[<-qbi];delta oO oP Jw Zh Zi dP dv Z6 Z5 Zd ZC GK qv Zb Z76 Jp Ab Z3S)
  have e1:D.nth (l.map eD) k.toNat=eD l[k.toNat]:=aG _ _ _ dy;have bK:k.toNat<(l.map eD).length:=by rw[zaa];exact dy
  rw[e1];have v:=eq2 l[k.toNat] x;generalize l[k.toNat]=y at*
  rw[<-v] at ht hf;simp only[YM,zaa] at hf bK⊢;exact bV hk (ak ⟨h0,hk⟩ (ao (uF _) (az (λh=>ht h) λh=>ak (by omega) (hf h)))))
 (by
  rintro⟨l,x⟩ k ae hm hk hp;dsimp only at*
  (rw[<-qbi];delta oO oP Jw Zh Zi dP dv Z6 Z5 Zd ZC GK qv Zb Z76 Jp Ab Z3S)
  exact oC (by first |omega | (simp only[zaa];omega)) hp)
 (by rintro s ae ⟨l,x,rfl,hm,h1,h2⟩;exact⟨(l,x),rfl,hm,λ_ hi _ ht _=>h1 (tC hi ht),λh=>h2 (tD h)⟩)
theorem qbl:FD X 27 Ta:=FD.mk (H:=[]) (hk:=[(2,ah (aL 27 2) qd6)]) (by kernel_rfl) .nil (.cons YQ .nil) (by
 intro ps R ae hh;obtain⟨l,x,rfl,rfl,hm,hp⟩:=hh
 (rw[<-qio];delta Z0 Z1 ZC ZD jO vZ oO oP Jw Z3 ZB dP dv qv Z7b)
 exact⟨l,x,rfl,hm,λh=>hp _ (by simp[h]),λh=>hp _ (by simp[h])⟩)
theorem Tn:LD X 27 2 (ah (aL 27 2) S9):=LD.find (H:=[]) (hk:=[]) (by kernel_rfl) (by kernel_rfl) .nil .nil
 (A:=List aO×aO) (λa k=>YN a.1 a.2 k) (·.1) (λa _ x=>x==a.2) (λa=>a.1.length<=1000000) (λa _=>(.ret,⟨18,[(0,.sl 0 0 a.1.length),(4,.d (.bool true))],[(0,⟨0,some 0,Ag false a.1⟩)]⟩)) (λa=>(.exit 0,⟨18,[(0,.sl 0 0 a.1.length)],[(0,⟨0,some 0,Ag false a.1⟩)]⟩)) (λ_ _ h=>by cases h) (λ_ h=>by cases h)
 (by
  rintro⟨l,x⟩ k ae dy hm h0 hk ht hf;dsimp only at*
  (rw[<-S8];delta oO oP Jw VJ Zh Zi tN tO Z6 Z5 Zd JI ZC GK jO zt Zb Z76 Jp Ab Z77)
  have e1:D.nth (l.map eD) k.toNat=eD l[k.toNat]:=aG _ _ _ dy;have bK:k.toNat<(l.map eD).length:=by rw[zaa];exact dy
  rw[e1];have v:=eq2 l[k.toNat] x;generalize l[k.toNat]=y at*
  rw[<-v] at ht hf;simp only[YN,zaa] at hf bK⊢;exact bV hk (ak ⟨h0,hk⟩ (ak bK (ao (uF _) (az (λh=>ht h) λh=>ak (by omega) (hf h))))))
 (by
  rintro⟨l,x⟩ k ae hm hk hp;dsimp only at*
  (rw[<-S8];delta oO oP Jw VJ Zh Zi tN tO Z6 Z5 Zd JI ZC GK jO zt Zb Z76 Jp Ab Z77)
  exact oC (by first |omega | (simp only[zaa];omega)) hp)
 (by rintro s ae ⟨l,x,rfl,hm,h1,h2⟩;exact⟨(l,x),rfl,hm,λ_ hi _ ht _=>h1 (tC hi ht),λh=>h2 (tD h)⟩)
theorem Tp:FD X 27 GR:=FD.mk (H:=[]) (hk:=[(2,ah (aL 27 2) S9)]) (by kernel_rfl) .nil (.cons Tn .nil) (by
 intro ps R ae hh;obtain⟨l,x,rfl,rfl,hm,hp⟩:=hh
 (rw[<-qgJ];delta Z0 VJ JI ZC jO vZ oO oP Jw Z3 ZB tN tO zt Z7d)
 exact⟨l,x,rfl,hm,λh=>hp _ (by simp[h]),λh=>hp _ (by simp[h])⟩)
theorem Tq:LD X 58 2 (ah (aL 58 2) Tf):=LD.find (H:=[]) (hk:=[]) (by kernel_rfl) (by kernel_rfl) .nil .nil
 (A:=List aq×aq) (λa k=>YO a.1 a.2 k) (·.1) (λa _ x=>x==a.2) (λa=>a.1.length<=1000000) (λa _=>(.ret,⟨18,[(0,.sl 0 0 a.1.length),(4,.d (.bool true))],[(0,⟨0,some 0,fO false a.1⟩)]⟩)) (λa=>(.exit 0,⟨18,[(0,.sl 0 0 a.1.length)],[(0,⟨0,some 0,fO false a.1⟩)]⟩)) (λ_ _ h=>by cases h) (λ_ h=>by cases h)
 (by
  rintro⟨l,x⟩ k ae dy hm h0 hk ht hf;dsimp only at*
  (rw[<-Te];delta fB fD fC fw fy lR SK fM Z7h Zh Zi tN tO Z6 Z5 Zd Tb ZC GK gk oE Zb Hs Ht Hu Z5O wR oQ Tc tU)
  have e1:D.nth (l.map cb) k.toNat=cb l[k.toNat]:=aG _ _ _ dy;have bK:k.toNat<(l.map cb).length:=by rw[zaa];exact dy
  rw[e1];have v:=RW l[k.toNat] x;generalize l[k.toNat]=y at*
  rw[<-v] at ht hf;simp only[YO,zaa] at hf bK⊢;exact bV hk (ak ⟨h0,hk⟩ (ak bK (ao (mQ _) (az (λh=>ht h) λh=>ak (by omega) (hf h))))))
 (by
  rintro⟨l,x⟩ k ae hm hk hp;dsimp only at*
  (rw[<-Te];delta fB fD fC fw fy lR SK fM Z7h Zh Zi tN tO Z6 Z5 Zd Tb ZC GK gk oE Zb Hs Ht Hu Z5O wR oQ Tc tU)
  exact oC (by first |omega | (simp only[zaa];omega)) hp)
 (by rintro s ae ⟨l,x,rfl,hm,h1,h2⟩;exact⟨(l,x),rfl,hm,λ_ hi _ ht _=>h1 (tC hi ht),λh=>h2 (tD h)⟩)
theorem qd8:FD X 58 Tj:=FD.mk (H:=[]) (hk:=[(2,ah (aL 58 2) Tf)]) (by kernel_rfl) .nil (.cons Tq .nil) (by
 intro ps R ae hh;obtain⟨l,x,rfl,rfl,hm,hp⟩:=hh
 (rw[<-qgK];delta Z0 fM Z7h Tb ZC gk mq fB fD fC fw fy lR SK Z3 ZB tN tO oE Z7j)
 exact⟨l,x,rfl,hm,λh=>hp _ (by simp[h]),λh=>hp _ (by simp[h])⟩)
theorem YR:LD X 31 9 (ah (aL 31 9) qd7):=LD.ins (H:=[(55,iN)]) (hk:=[]) (by kernel_rfl) (by kernel_rfl) (.cons la .nil) .nil
 (A:=List aT×List aT×Nat×Int) (α:=aq) (λa o k=>lvI a.1 a.2.1 o a.2.2.1 a.2.2.2 k) lz (λa=>a.2.2.1) (λ_=>True) (λa o=>(.exit 2,⟨72,[(0,iR a.1),(1,iR a.2.1),(5,.sl 0 0 a.2.2.1),(6,iD a.2.2.2)],[(0,⟨0,none,fO false o⟩)]⟩)) (λ_ _ h=>by cases h)
 (by
  rintro⟨h,g,n,i⟩ o k ae _ h0 yV nb hk hz bk bC;dsimp only at*
  subst yV
  (rw[<-qgL];delta fM zu q6 Zm ei BH Zb Hs Ht Hu X2 Z8 Z4e VK Z7n Zl Zu Zv uM wX sd SX Zq Zx ZM Z7r X1 oQ Z7k tT Z6 Z5 Z7 wR Tc mZ Zk)
  refine gT (λhp=> ?_) λhp=>hz (by omega);have gJ:k.toNat-1<o.length:=by omega
  have ek:(k-1).toNat=k.toNat-1:=by omega
  have e1:D.nth (o.map cb) k.toNat=cb o[k.toNat]:=aG _ _ _ hk;have e2:D.nth (o.map cb) (k.toNat-1)=cb o[k.toNat-1]:=aG _ _ _ gJ;have bk:=bk hp;have bC:=bC hp;have uN:=iQ cb o k.toNat o[k.toNat] o[k.toNat-1];have e3: ∀z,D.nth ((o.map cb).set k.toNat z) (k.toNat-1)=cb o[k.toNat-1]:=λz=>by unfold D.nth;rw[zab,zaY (by omega)];simp[gJ]
  rw[ek,e1,e2];simp only[e3];generalize o[k.toNat]=x at*
  generalize o[k.toNat-1]=y at*
  simp only[zaa,zbi] at bC⊢;have uO:0<=k/\k<(o.length:Int):=⟨h0,by omega⟩
  have uP:0<=k-1/\k-1<(o.length:Int):=⟨by omega,by omega⟩
  have hf:(-9223372036854775808:Int)<=k-1/\k-1<=9223372036854775807:=by omega
  refine ak uO (ak hk (ao (mQ _) (ak hf (ak uP (ak gJ (ao (mQ _) ⟨(x).1,(x).2.1,(x).2.2,(y).1,(y).2.1,(y).2.2,rfl,rfl,gT (λh=> ?_) λh=>bk (by rw[<-zbS];exact λh2=>h ((ib (x) (y)).2 h2))⟩))))));have hy:=bC ((ib (x) (y)).1 h);simp only[lvI,fO] at hy;rw[<-uN] at hy;refine ak hf (ak hf (ak uP (ak gJ (ao (mQ _) (ak uO (ak hk (ao (mQ _) (ak uO (ak hk (ao (mQ _) (ak uP (ak gJ (ao (mQ _) (ak hf ?_))))))))))))));exact hy)
 (by rintro s ae ⟨h,g,o,x,n,i,k,rfl,⟨hk,hn,ho⟩,hp⟩;refine⟨(h,g,n,i),o,x,k,rfl,hk,trivial,⟨hn.symm,ho⟩,?_⟩;have:=hp _ rfl;rw[lvH,js,<-hn] at this;exact this)
theorem YS{h g:List aT}{i:Nat}(hi:i<h.length):Dt (h.take (i+1)) g=S6 g (Dt (h.take i) g) h[i]:=by unfold Dt;rw[zaf hi,zbd];rfl
theorem qd9:LD X 31 3 (ah (aL 31 3) gLv):=LD.idx (H:=[(59,S7),(58,Tj)]) (hk:=[(9,ah (aL 31 9) qd7)]) (by kernel_rfl) (by kernel_rfl) (.cons qbk (.cons qd8 .nil)) (.cons YR .nil)
 (A:=List aT×List aT) (B:=List aq) (λa o i=>lvH a.1 a.2 o i) (λa=>a.1.length) (λa i o=>(a.1.length<=1000000/\a.2.length<=1000000)/\o=Dt (a.1.take i) a.2)
 (λa x=>x=(.exit 0,⟨72,[(5,.sl 0 0 (Dt a.1 a.2).length)],[(0,⟨0,none,fO false (Dt a.1 a.2)⟩)]⟩))
 (by
  rintro⟨h,g⟩ o i ae h0 cj bK ⟨hm,ho⟩ hn aW;dsimp only at*
  (rw[<-qbj];delta gk tU Z7y Zm qA HG Zu Zv fM ei Z6 Z5 Zb yU Z7u Z7v oQ zu q6 Zh Zt uM wX sd Zd mq Z7h Tb fB fD fC fw fy nc iP oE Z7t BG Zq Z7z Z7A NN NP YL)
  have nb:o.length<=i.toNat:=by have:=Lt (h.take i.toNat) g;rw[zat] at this;rw[ho];omega
  have e1:D.nth (h.map ki) i.toNat=ki h[i.toNat]:=aG _ _ _ bK;have ng:=YS (g:=g) bK;rw[<-ho] at ng;have b9:=λo' (fA:o'=S6 g o h[i.toNat])=>hn o' ⟨hm,by rw[ng];exact fA⟩;generalize h[i.toNat]=d at*
  rw[e1];simp only[zaa];have t1:List.take o.length (o.map cb)++[cb d.1]=(o++[d.1]).map cb:=b7 cb o d.1;refine bV cj (ak ⟨h0,cj⟩ (ao (JJ _) (ak ⟨h0,cj⟩ (ao (JJ _) ⟨g,d,rfl,rfl,hm.2,λb hb=> ?_⟩))));refine az (λBI=>ak (by omega) (b9 o ?_)) λv7=>⟨o,d.1,rfl,rfl,by omega,λb2 dM=>az (λTr=>ak (by omega) (b9 o ?_)) λTs=> ?_⟩
  ·unfold S6;rw[hb,zal] at BI;rw[zaq (.inl BI)]
  ·unfold S6;rw[dM,zal] at Tr;rw[zaq (.inr Tr)]
  rw[hb,zaM] at v7;rw[dM,zaM] at Ts;have Tt:S6 g o d=ct lz o d.1:=by unfold S6;rw[zap (λhh=>hh.elim v7 Ts)]
  simp only[zam,zay,zaI];refine ao ?_ (ak (by omega) ⟨h,g,o,d.1,o.length+1,i,((o.length+1:Nat):Int)-1,congrArg (λz=>(⟨72,[(0,iR h),(1,iR g),(5,.sl 0 0 (o.length+1)),(6,iD i),(8,iD (((o.length+1:Nat):Int)-1))],[(0,⟨0,none,.arr 50 false z⟩)]⟩:S)) t1,⟨by omega,rfl,by omega⟩,λo' fA=>ak (by omega) (b9 o' (by rw[Tt];exact fA))⟩);rw[zad];exact⟨by simp,dh (by omega) (by omega)⟩
 )
 (by
  rintro⟨h,g⟩ o i ae hi ⟨hm,ho⟩ aW;dsimp only at*
  (rw[<-qbj];delta gk tU Z7y Zm qA HG Zu Zv fM ei Z6 Z5 Zb yU Z7u Z7v oQ zu q6 Zh Zt uM wX sd Zd mq Z7h Tb fB fD fC fw fy nc iP oE Z7t BG Zq Z7z Z7A NN NP YL)
  refine oC (by simp only[zaa];omega) (aW _ (λh=>by cases h) ?_);rw[ho,zag])
 (by rintro s ae ⟨h,g,rfl,hs,hp⟩;refine⟨(h,g),[],rfl,⟨hs,rfl⟩,?_⟩;rintro x rfl;exact hp _ rfl)
theorem qea:FD X 31 Tm:=FD.mk (H:=[]) (hk:=[(3,ah (aL 31 3) gLv)]) (by kernel_rfl) .nil (.cons qd9 .nil) (by
 intro ps R ae hh;obtain⟨h,g,rfl,rfl,hs,hp⟩:=hh
 (rw[<-qip];delta fM zu q6 gk oE BG VL Z3 DZ ZE Tk uM wX sd Z7D)
 exact⟨h,g,rfl,hs,λo ho=>hp o ho⟩)
end
abbrev KE:Hd:=((0,0),(0,0))
def Tv:S->K (PX×S):=λst ae=> ∃l out i b,st=qdE l out b i 0/\(b=false/\0<=i/\i<(l.length:Int)/\l.length<=1000000/\out.length<=1000000)/\ ∀h,h=out.any (λy=>y.1==(l.getD i.toNat KE).1)->ae (.exit 2,⟨80,[(0,yN l),(3,.sl 0 0 out.length),(4,iD i),(5,.d (.bool h))],[(0,⟨0,none,wo false out⟩)]⟩)
def NQ(a b:Hd):Bool:=r8 b.1 a.1
abbrev Tw(l out:List Hd)(n:Nat)(i k:Int):S:=⟨80,[(0,yN l),(3,.sl 0 0 n),(4,iD i),(7,iD k)],[(0,⟨0,none,wo false out⟩)]⟩
def Tx:S->K (PX×S):=λst ae=> ∃l o x n i k,st=Tw l (o++[x]) n i k/\(k=(o.length:Int)/\n=o.length+1/\o.length<=1000000)/\ ∀o',o'=ct NQ o x->ae (.exit 4,SB l o' i)
def Z7G(ix:List Hd)(ar:List Hd)(aX:Int):En:=En.mk 0 none (Obj.arr (131:TypeId) false (OD ix++[D.agg (Yj ar aX)]))
def Ty(ix:List Hd)(ar:List Hd)(aX:Int):Nat:=List.length ix+List.length [D.agg (Yj ar aX)]
def Du(ar:List Hd):Prop:=List.length ar<=1000000
theorem Tz(l out:List Hd)(i:Int)(ae:PX×S->Prop):(bif decide (i<(↑(Af l):Int)) then∃(ar:List Hd) (ix:List Hd) (aX:Int) (b:Bool),S.mk 80 (Dm l::qZ out::ml i::(5,P.d Z0)::DZ) (wu out)=S.mk 80 (Dm ar::qZ ix::ml aX::(5,fX b)::DZ) (wu ix)/\(b=false/\(0:Int)<=aX/\aX<yO ar/\Du ar/\Du ix)/\ ∀(h:Bool),(h=List.any ix λ(y:Hd)=>Prod.fst y==Prod.fst (List.getD ar (Zb aX) KE))->bif h then ob (Zd aX) (ae (PX.normal,S.mk 80 (Dm ar::qZ ix::sa aX) (wu ix))) else ob (decide ((0:Int)<=aX/\aX<(↑(Af ar):Int))) (ob (By ar aX) (ob (Nat.ble (List.length ix) (Af ix)&&aJ (Ty ix ar aX) 32) (ob (decide (Z5<=(↑(Ty ix ar aX):Int)-(1:Int)/\(↑(Ty ix ar aX):Int)-(1:Int)<=Z6)) (∃(l:List Hd) (o:List Hd) (x:Hd) (n:Nat) (i:Int) (k:Int),S.mk 80 [Dm ar,(3,P.sl 0 0 (Ty ix ar aX)),ml aX,(7,P.d (D.int .i64 ((↑(Ty ix ar aX):Int)-(1:Int))))] [(0,Z7G ix ar aX)]=S.mk 80 [Dm l,(3,Zu n),ml i,oW k] [(0,En.mk 0 none (Obj.arr (131:TypeId) false (List.map fN (o++[x]))))]/\(k=yO o/\n=List.length o+1/\Du o)/\ ∀(o':List Hd),o'=ct NQ o x->ob (Zd i) (ae (PX.normal,S.mk 80 (Dm l::qZ o'::sa i) (wu o'))))))) else ae (PX.exit 0,S.mk 80 [qZ out] (wu out)))=(aC [] [(7,ah (aL 51 7) Tv),(13,ah (aL 51 13) Tx)] 51 3 (SB l out i)) ae:=by kernel_rfl
def TA:S->K (PX×S):=λst ae=> ∃l,st=SB l [] 0/\l.length<=1000000/\ ∀o,o=cc NQ (Ad l)->ae (.exit 0,⟨80,[(3,.sl 0 0 o.length)],[(0,⟨0,none,wo false o⟩)]⟩)
def Z7H:En:=En.mk 0 none (Obj.arr (131:TypeId) false [])
def Z7I(ar:List Hd):S:=S.mk 80 (Dm ar::Sw) [(0,Z7H)]
theorem qgM(l:List Hd)(ae:P×List (Nat×En)->Prop):(∃(ar:List Hd),Z7I l=Z7I ar/\Du ar/\ ∀(o:List Hd),o=cc NQ (Ad ar)->ae (P.sl 0 0 (List.length o),wu o))=(aK [] [(3,ah (aL 51 3) TA)] 51 [yN l] []) ae:=by kernel_rfl
def qeb:bh:=λps R ae=> ∃l,ps=[yN l]/\R=[]/\l.length<=1000000/\ ∀o,o=cc NQ (Ad l)->ae (.sl 0 0 o.length,[(0,⟨0,none,wo false o⟩)])
def qec:S->K (PX×S):=λst ae=> ∃l,st=Yl l [] 0/\l.length<=1000000/\ ∀o,o=l.map Di->ae (.exit 0,⟨26,[(3,.sl 0 0 o.length)],[(0,⟨0,none,wo false o⟩)]⟩)
def Z7J(ar:List av):S:=S.mk 26 (dB ar::Sw) [(0,Z7H)]
theorem qgN(l:List av)(ae:P×List (Nat×En)->Prop):(∃(ar:List av),Z7J l=Z7J ar/\oR ar/\ ∀(o:List Hd),o=List.map Di ar->ae (P.sl 0 0 (List.length o),wu o))=(aK [] [(3,ah (aL 26 3) qec)] 26 [dD l] []) ae:=by kernel_rfl
def TB:bh:=λps R ae=> ∃l,ps=[dD l]/\R=[]/\l.length<=1000000/\ ∀o,o=l.map Di->ae (.sl 0 0 o.length,[(0,⟨0,none,wo false o⟩)])
abbrev qed(m on:List Hd)(i:Int)(un:Bool)(k:Int):S:=⟨63,[(3,.sl 0 0 m.length),(4,.sl 1 0 on.length),(5,iD i),(6,.d (.bool un)),(7,iD k)],[(0,⟨0,none,wo false m⟩),(1,⟨0,none,wo false on⟩)]⟩
def TC:S->K (PX×S):=λst ae=> ∃m on i b,st=qed m on i b 0/\(b=false/\0<=i/\i<(m.length:Int)/\m.length<=1000000/\on.length<=1000000)/\ ∀h,h=on.any (λy=>y.2==(m.getD i.toNat KE).1)->ae (.exit 2,⟨63,[(3,.sl 0 0 m.length),(4,.sl 1 0 on.length),(5,iD i),(6,.d (.bool h))],[(0,⟨0,none,wo false m⟩),(1,⟨0,none,wo false on⟩)]⟩)
def VM(m:List Hd)(on:List Hd):List (Nat×En):=[zn m,(1,GD on)]
def VN(on:List Hd):Nat×P:=(4,P.sl 1 0 (List.length on))
theorem TD(m on:List Hd)(i:Int)(un:Bool)(k:Int)(ae:PX×S->Prop):(bif decide (k<yO on) then bif un then ob (Zd k) (ae (PX.normal,S.mk 63 (qZ m::VN on::yj i::(6,ZC)::qw k) (VM m on))) else ob (Hx k on) (ob (Hw k on) (ob (By on k) (ob (Hx i m) (ob (Hw i m) (ob (By m i) (ob (Zd k) (ae (PX.normal,S.mk 63 (qZ m::VN on::yj i::(6,P.d (D.bool (D.aj (D.ax (wq on k) 2)==D.aj (D.ax (wq m i) 0)&&(D.aj (D.ax (wq on k) 3)==D.aj (D.ax (wq m i) 1)&&true))))::qw k) (VM m on))))))))) else ae (PX.exit 2,S.mk 63 [qZ m,VN on,yj i,(6,fX un)] (VM m on)))=(aC [] [] 25 8 (qed m on i un k)) ae:=by kernel_rfl
abbrev YT(m on:List Hd)(i:Int):S:=⟨63,[(3,.sl 0 0 m.length),(4,.sl 1 0 on.length),(5,iD i)],[(0,⟨0,none,wo false m⟩),(1,⟨0,none,wo false on⟩)]⟩
abbrev YU(on:List Hd)(out:List aO)(i:Int):S:=⟨63,[(4,.sl 0 0 on.length),(8,.sl 1 0 out.length),(9,iD i)],[(0,⟨0,none,wo false on⟩),(1,⟨0,none,Ag false out⟩)]⟩
def HI(out:List aO):En:=En.mk 0 none (Obj.arr (48:TypeId) false (List.map eD out))
def YV(out:List aO):List (Nat×En):=[(0,HI out)]
def Z7M(on:List Hd):Nat×P:=(4,P.sl 0 0 (List.length on))
theorem qee(on:List Hd)(out:List aO)(i:Int)(ae:PX×S->Prop):(bif decide (i>=(0:Int)) then ob (Hx i on) (ob (Hw i on) (ob (By on i) (ob (Nat.ble (jO out) (Ab out)&&aJ (jO out+List.length [Z5q on i]) 16) (ob (Z7 i) (ae (PX.normal,S.mk 63 (Z7M on::(8,P.sl 1 0 (jO out+List.length [Z5q on i]))::Z6R i) [zn on,(1,En.mk 0 none (Obj.arr (48:TypeId) false (List.take (jO out) (List.map eD out)++[Z5q on i])))])))))) else ae (PX.exit 4,S.mk 63 [(8,zt out)] (YV out)))=(aC [] [] 25 15 (YU on out i)) ae:=by kernel_rfl
theorem TE(m on:List Hd)(i:Int)(ae:PX×S->Prop):(bif decide (i<yO m) then∃(dV:List Hd) (c7:List Hd) (aX:Int) (b:Bool),S.mk 63 (qZ m::VN on::yj i::(6,P.d Z0)::uG) (VM m on)=S.mk 63 (qZ dV::VN c7::yj aX::(6,fX b)::uG) (VM dV c7)/\(b=false/\(0:Int)<=aX/\aX<yO dV/\Du dV/\Du c7)/\ ∀(h:Bool),(h=List.any c7 λ(y:Hd)=>Prod.snd y==Prod.fst (List.getD dV (Zb aX) KE))->bif !h then ob (Hx aX dV) (ob (Hw aX dV) (ob (By dV aX) (ob (Nat.ble (List.length c7) (Af c7)&&aJ (Ty c7 dV aX) 32) (ob (Zd aX) (ae (PX.normal,S.mk 63 (qZ dV::(4,P.sl 1 0 (Ty c7 dV aX))::Zi aX) [zn dV,(1,Z7G c7 dV aX)])))))) else ob (Zd aX) (ae (PX.normal,S.mk 63 (qZ dV::VN c7::Zi aX) (VM dV c7))) else ae (PX.exit 0,S.mk 63 [Z7M on] (wu on)))=(aC [] [(8,ah (aL 25 8) TC)] 25 4 (YT m on i)) ae:=by kernel_rfl
def TG:S->K (PX×S):=λst ae=> ∃m,st=YT m [] 0/\m.length<=1000000/\ ∀o,o=OA m []->ae (.exit 0,⟨63,[(4,.sl 0 0 o.length)],[(0,⟨0,none,wo false o⟩)]⟩)
def TH:S->K (PX×S):=λst ae=> ∃on i,st=YU on [] i/\(i=(on.length:Int)-1/\on.length<=1000000)/\ ∀o,o=(on.map (·.1)).reverse->ae (.exit 4,⟨63,[(8,.sl 0 0 o.length)],[(0,⟨0,none,Ag false o⟩)]⟩)
def NR:En:=En.mk 0 none (Obj.arr (48:TypeId) false [])
def Z7Q(m:List Hd):S:=S.mk 63 (qZ m::(4,rI)::ZB) [zn m,(1,Z7H)]
theorem qgO(l:List Hd)(ae:P×List (Nat×En)->Prop):(∃(ar:List Hd),[P.d (D.sl 4 (List.map fN l))]=[P.d (D.sl 4 (List.map fN ar))]/\Zq/\Du ar/\ ∀(o:List Hd),o=cc NQ (Ad ar)-> ∃(m:List Hd),Z7Q o=Z7Q m/\Du m/\ ∀(o:List Hd),o=OA m []->ob (decide (Z5<=yO o-(1:Int)/\yO o-(1:Int)<=Z6)) (∃(on:List Hd) (i:Int),S.mk 63 [Z7M o,(8,rI),(9,P.d (D.int .i64 (yO o-(1:Int))))] [zn o,(1,NR)]=S.mk 63 (Z7M on::(8,rI)::VH i) [zn on,(1,NR)]/\(i=yO on-(1:Int)/\Du on)/\ ∀(o:List aO),o=List.reverse (List.map (λ(x:Hd)=>Prod.fst x) on)->ae (zt o,YV o)))=(aK [(51,qeb)] [(4,ah (aL 25 4) TG),(15,ah (aL 25 15) TH)] 25 [yN l] []) ae:=by kernel_rfl
def TI:bh:=λps R ae=> ∃l,ps=[yN l]/\R=[]/\l.length<=1000000/\ ∀o,o=onX l->ae (.sl 0 0 o.length,[(0,⟨0,none,Ag false o⟩)])
theorem GU{α:Type}(t:α->Bool)(l:List α){i:Nat}(h:i<l.length):(l.take (i+1)).any t=((l.take i).any t ||t l[i]):=by rw[zaf h,zcc];simp
section
variable{X:XF}
theorem TJ:LD X 51 7 (ah (aL 51 7) Tv):=LD.idx (H:=[]) (hk:=[]) (by kernel_rfl) (by kernel_rfl) .nil .nil
 (A:=List Hd×List Hd×Int) (B:=Bool) (λa b k=>qdE a.1 a.2.1 b a.2.2 k) (λa=>a.2.1.length) (λa k b=>(0<=a.2.2/\a.2.2<(a.1.length:Int)/\a.1.length<=1000000/\a.2.1.length<=1000000)/\b=(a.2.1.take k).any (λy=>y.1==(a.1.getD a.2.2.toNat KE).1))
 (λa x=>x=(.exit 2,⟨80,[(0,yN a.1),(3,.sl 0 0 a.2.1.length),(4,iD a.2.2),(5,.d (.bool (a.2.1.any (λy=>y.1==(a.1.getD a.2.2.toNat KE).1))))],[(0,⟨0,none,wo false a.2.1⟩)]⟩))
 (by
  rintro⟨l,out,i⟩ b k ae h0 r4 dy ⟨⟨lx,cj,sC,nb⟩,hb⟩ hn ho;dsimp only at*
  (rw[<-SA];delta fX Zb wq Af By Hw yO Hx GD zn wu Zh Zt ZC Zm ml qZ Dm Z6 Z5 Zd)
  have e1:D.nth (out.map fN) k.toNat=fN out[k.toNat]:=aG _ _ _ dy;have bK:i.toNat<l.length:=by omega
  have e2:D.nth (l.map fN) i.toNat=fN l[i.toNat]:=aG _ _ _ bK;have AK:=GU (λy:Hd=>y.1==(l.getD i.toNat KE).1) out dy;rw[e1,e2];simp only[zaa];refine bV r4 (az (λh=>ak (by omega) (hn _ ⟨⟨lx,cj,sC,nb⟩,?_⟩)) λh=>ak ⟨h0,r4⟩ (ak dy (ao (uJ _) (ak ⟨lx,cj⟩ (ao (uJ _) (ak (by omega) (hn _ ⟨⟨lx,cj,sC,nb⟩,?_⟩)))))))
  ·rw[AK,<-hb,h];rfl
  rw[AK,<-hb,h,zcb,lP bK];exact eq2 out[k.toNat].1 l[i.toNat].1)
 (by
  rintro⟨l,out,i⟩ b k ae hk ⟨h1,hb⟩ ho;dsimp only at*
  (rw[<-SA];delta fX Zb wq Af By Hw yO Hx GD zn wu Zh Zt ZC Zm ml qZ Dm Z6 Z5 Zd)
  refine oC (by omega) (ho _ (λh=>by cases h) ?_);rw[hb,zag])
 (by rintro s ae ⟨l,out,i,b,rfl,⟨hb,h1⟩,hp⟩;refine⟨(l,out,i),b,rfl,⟨h1,by rw[hb];simp⟩,?_⟩;rintro x rfl;exact hp _ rfl)
theorem TK:LD X 51 13 (ah (aL 51 13) Tx):=LD.ins (H:=[(79,pO)]) (hk:=[]) (by kernel_rfl) (by kernel_rfl) (.cons yH .nil) .nil
 (A:=List Hd×Int×Nat) (α:=Hd) (λa o k=>Tw a.1 o a.2.2 a.2.1 k) NQ (λa=>a.2.2) (λ_=>True) (λa o=>(.exit 4,⟨80,[(0,yN a.1),(3,.sl 0 0 a.2.2),(4,iD a.2.1)],[(0,⟨0,none,wo false o⟩)]⟩)) (λ_ _ h=>by cases h)
 (by
  rintro⟨l,i,n⟩ o k ae _ h0 yV nb hk hz bk bC;dsimp only at*
  subst yV
  (rw[<-qdF];delta GD zn wu Zm ml Jx Zb wq Yj Zl qZ Dm Z8 Yk Z5p Zq oO oP r9 Z5q By Af Hw yO Hx Z5m Z6 Z5 Z7 Zk)
  refine gT (λhp=> ?_) λhp=>hz (by omega);have gJ:k.toNat-1<o.length:=by omega
  have e1:D.nth (o.map fN) k.toNat=fN o[k.toNat]:=aG _ _ _ hk;have e2:D.nth (o.map fN) (k-1).toNat=fN o[k.toNat-1]:=by rw[show(k-1).toNat=k.toNat-1 by omega];exact aG _ _ _ gJ
  have bk:=bk hp;have bC:=bC hp;rw[e1,e2];have uN:=iQ fN o k.toNat o[k.toNat] o[k.toNat-1];have Hm:=Nz o k.toNat o[k.toNat] o[k.toNat-1];have e3: ∀z,D.nth ((o.map fN).set k.toNat z) (k-1).toNat=fN o[k.toNat-1]:=λz=>by rw[show(k-1).toNat=k.toNat-1 by omega];unfold D.nth;rw[zab,zaY (by omega)];simp[gJ]
  generalize o[k.toNat]=x at*
  generalize o[k.toNat-1]=y at*
  have w1:D.bc (D.agg [D.int .i64 (D.aj (D.ax (fN x) 0)),D.int .i64 (D.aj (D.ax (fN x) 1)),D.int .i64 (D.aj (D.ax (fN x) 2)),D.int .i64 (D.aj (D.ax (fN x) 3))]) [D.int .i64 (D.aj (D.ax (fN y) 0)),D.int .i64 (D.aj (D.ax (fN y) 1)),D.int .i64 (D.aj (D.ax (fN y) 2)),D.int .i64 (D.aj (D.ax (fN y) 3))]=fN y:=rfl;have w2:D.bc (D.agg [D.int .i64 (D.aj (D.ax (fN y) 0)),D.int .i64 (D.aj (D.ax (fN y) 1)),D.int .i64 (D.aj (D.ax (fN y) 2)),D.int .i64 (D.aj (D.ax (fN y) 3))]) [D.int .i64 (D.aj (D.ax (fN x) 0)),D.int .i64 (D.aj (D.ax (fN x) 1)),D.int .i64 (D.aj (D.ax (fN x) 2)),D.int .i64 (D.aj (D.ax (fN x) 3))]=fN x:=rfl;rw[w1,e3,w2,show(k-1).toNat=k.toNat-1 by omega,uN];simp only[Tw,zaa,zbi] at bC⊢;have uO:0<=k/\k<(o.length:Int):=⟨h0,by omega⟩
  have uP:0<=k-1/\k-1<(o.length:Int):=⟨by omega,by omega⟩
  have hf:(-9223372036854775808:Int)<=k-1/\k-1<=9223372036854775807:=by omega
  refine ak hf (ak uP (ak gJ (ao (uJ _) (ak uO (ak hk (ao (uJ _) ⟨y.1,x.1,rfl,rfl,λr hr=>az (λh=> ?_) λh=>bk (by rw[<-h,hr];rfl)⟩))))));refine ak hf (ak hf (ak uP (ak gJ (ao (uJ _) (ak uO (ak hk (ao (uJ _) (ak uO (ak hk (ao (uJ _) (ak uP (ak gJ (ao (uJ _) (ak hf ?_))))))))))))));exact bC (by rw[<-h,hr];rfl))
 (by rintro s ae ⟨l,o,x,n,i,k,rfl,⟨hk,hn,ho⟩,hp⟩;refine⟨(l,i,n),o,x,k,rfl,hk,trivial,⟨hn.symm,ho⟩,?_⟩;have:=hp _ rfl;rw[SB,js,<-hn] at this;exact this)
theorem TL:LD X 51 3 (ah (aL 51 3) TA):=LD.idx (H:=[]) (hk:=[(7,ah (aL 51 7) Tv),(13,ah (aL 51 13) Tx)]) (by kernel_rfl) (by kernel_rfl) .nil (.cons TJ (.cons TK .nil))
 (A:=List Hd) (B:=List Hd) (λl o i=>SB l o i) (λl=>l.length) (λl i o=>l.length<=1000000/\o=cc NQ (Ad (l.take i)))
 (λl x=>x=(.exit 0,⟨80,[(3,.sl 0 0 (cc NQ (Ad l)).length)],[(0,⟨0,none,wo false (cc NQ (Ad l))⟩)]⟩))
 (by
  rintro l o i ae h0 cj bK ⟨sC,ho⟩ hn aW
  (rw[<-Tz];delta Zm oW Zu Zb wq Yj OD Z7G Z6 Z5 Ty By Zh sa Zd Du yO fX GD zn wu Z3 DZ Z0 ml qZ Dm Af)
  have nb:o.length<=i.toNat:=by rw[ho,kA];have:=wS (l.take i.toNat);rw[zat] at this;omega
  have e2:D.nth (l.map fN) i.toNat=fN l[i.toNat]:=aG _ _ _ bK;have hg:=lP bK KE;have OC:=SD bK;have JH:(o.any λy=>y.1==l[i.toNat].1)=((Ad (l.take i.toNat)).any λy=>y.1==l[i.toNat].1):=by rw[ho];exact(cI _).any_eq
  generalize l[i.toNat]=g at hg OC JH e2;have t2:D.agg [D.int .i64 (D.aj (D.ax (fN g) 0)),D.int .i64 (D.aj (D.ax (fN g) 1)),D.int .i64 (D.aj (D.ax (fN g) 2)),D.int .i64 (D.aj (D.ax (fN g) 3))]=fN g:=rfl;rw[zaa];refine bV cj ⟨l,o,i,false,rfl,⟨rfl,h0,cj,sC,by omega⟩,λh hh=> ?_⟩;rw[hg] at hh;rw[e2,t2];simp only[zaa,zam,zay,zaI];refine az (λh1=>ak (by omega) (hn _ ⟨sC,?_⟩)) λh1=>ak ⟨h0,cj⟩ (ao (uJ _) (ao ?_ (ak (by omega) ⟨l,o,g,o.length+1,i,((o.length+1:Nat):Int)-1,?_,⟨by omega,rfl,by omega⟩,λo' fA=>ak (by omega) (hn _ ⟨sC,?_⟩)⟩)))
  ·rw[OC,Ym (by rw[<-JH,<-hh,h1]),ho]
  ·rw[zad];exact⟨by simp,dh (by omega) (by omega)⟩
  ·rw[b7]
  rw[OC,Yn (by rw[<-JH,<-hh,h1]),rQ,<-ho,fA])
 (by
  rintro l o i ae hi ⟨sC,ho⟩ aW
  (rw[<-Tz];delta Zm oW Zu Zb wq Yj OD Z7G Z6 Z5 Ty By Zh sa Zd Du yO fX GD zn wu Z3 DZ Z0 ml qZ Dm Af)
  simp only[zaa];refine oC (by omega) (aW _ (λh=>by cases h) ?_);rw[ho,zag])
 (by rintro s ae ⟨l,rfl,hs,hp⟩;refine⟨l,[],rfl,⟨hs,rfl⟩,?_⟩;rintro x rfl;exact hp _ rfl)
theorem qgP:FD X 51 qeb:=FD.mk (H:=[]) (hk:=[(3,ah (aL 51 3) TA)]) (by kernel_rfl) .nil (.cons TL .nil) (by
 intro ps R ae hh;obtain⟨l,rfl,rfl,hs,hp⟩:=hh
 (rw[<-qgM];delta GD zn wu Du Z7H Z3 Hv ZE Sw Dm Z7I)
 exact⟨l,rfl,hs,λo ho=>hp o ho⟩)
theorem YW:LD X 26 3 (ah (aL 26 3) qec):=LD.idx (H:=[]) (hk:=[]) (by kernel_rfl) (by kernel_rfl) .nil .nil
 (A:=List av) (B:=List Hd) (λl o i=>Yl l o i) (λl=>l.length) (λl i o=>l.length<=1000000/\o=(l.take i).map Di)
 (λl x=>x=(.exit 0,⟨26,[(3,.sl 0 0 (l.map Di).length)],[(0,⟨0,none,wo false (l.map Di)⟩)]⟩))
 (by
  rintro l o i ae h0 cj bK ⟨sC,ho⟩ hn aW
  (rw[<-SC];delta GD zn wu qZ OD Zh sa fa dB Z6 Z5 Zd Zb nY Bw Dj Z5r Af jP kz oB yM)
  have nb:o.length<=i.toNat:=by rw[ho];simp;omega
  have e2:D.nth (l.map cu) i.toNat=cu l[i.toNat]:=aG _ _ _ bK;have lC:(l.take (i.toNat+1)).map Di=o++[Di l[i.toNat]]:=by rw[zaf bK,zaG,ho];rfl
  generalize l[i.toNat]=g at e2 lC;have t2:D.agg [D.int .i64 (D.aj (D.ax (cu g) 0)),D.int .i64 (D.aj (D.ax (cu g) 1)),D.int .i64 (D.aj (D.ax (cu g) 4)),D.int .i64 (D.aj (D.ax (cu g) 5))]=fN (Di g):=rfl;rw[e2,t2,b7];simp only[zaa,zam,zay,zaI];refine bV cj (ak ⟨h0,cj⟩ (ao (mT _) (ak ⟨h0,cj⟩ (ao (mT _) (ao ?_ (ak (by omega) ?_))))))
  ·rw[zad];exact⟨by simp,dh (by omega) (by omega)⟩
  have:=hn (o++[Di g]) ⟨sC,lC.symm⟩;simp only[Yl,zaj,zam,zay,zaI] at this;exact this)
 (by
  rintro l o i ae hi ⟨sC,ho⟩ aW
  (rw[<-SC];delta GD zn wu qZ OD Zh sa fa dB Z6 Z5 Zd Zb nY Bw Dj Z5r Af jP kz oB yM)
  simp only[zaa];refine oC (by omega) (aW _ (λh=>by cases h) ?_);rw[ho,zag])
 (by rintro s ae ⟨l,rfl,hs,hp⟩;refine⟨l,[],rfl,⟨hs,rfl⟩,?_⟩;rintro x rfl;exact hp _ rfl)
theorem qbm:FD X 26 TB:=FD.mk (H:=[]) (hk:=[(3,ah (aL 26 3) qec)]) (by kernel_rfl) .nil (.cons YW .nil) (by
 intro ps R ae hh;obtain⟨l,rfl,rfl,hs,hp⟩:=hh
 (rw[<-qgN];delta GD zn wu oR Z7H Z3 Hv ZE Sw fa dB Z7J)
 exact⟨l,rfl,hs,λo ho=>hp o ho⟩)
theorem TM:LD X 25 8 (ah (aL 25 8) TC):=LD.idx (H:=[]) (hk:=[]) (by kernel_rfl) (by kernel_rfl) .nil .nil
 (A:=List Hd×List Hd×Int) (B:=Bool) (λa b k=>qed a.1 a.2.1 a.2.2 b k) (λa=>a.2.1.length) (λa k b=>(0<=a.2.2/\a.2.2<(a.1.length:Int)/\a.1.length<=1000000/\a.2.1.length<=1000000)/\b=(a.2.1.take k).any (λy=>y.2==(a.1.getD a.2.2.toNat KE).1))
 (λa x=>x=(.exit 2,⟨63,[(3,.sl 0 0 a.1.length),(4,.sl 1 0 a.2.1.length),(5,iD a.2.2),(6,.d (.bool (a.2.1.any (λy=>y.2==(a.1.getD a.2.2.toNat KE).1))))],[(0,⟨0,none,wo false a.1⟩),(1,⟨0,none,wo false a.2.1⟩)]⟩))
 (by
  rintro⟨l,out,i⟩ b k ae h0 r4 dy ⟨⟨lx,cj,sC,nb⟩,hb⟩ hn ho;dsimp only at*
  (rw[<-TD];delta fX Zb wq By Af Hw yO Hx GD zn VM Zh qw ZC Zm yj VN qZ Z6 Z5 Zd)
  have e1:D.nth (out.map fN) k.toNat=fN out[k.toNat]:=aG _ _ _ dy;have bK:i.toNat<l.length:=by omega
  have e2:D.nth (l.map fN) i.toNat=fN l[i.toNat]:=aG _ _ _ bK;have AK:=GU (λy:Hd=>y.2==(l.getD i.toNat KE).1) out dy;rw[e1,e2];simp only[zaa];refine bV r4 (az (λh=>ak (by omega) (hn _ ⟨⟨lx,cj,sC,nb⟩,?_⟩)) λh=>ak ⟨h0,r4⟩ (ak dy (ao (uJ _) (ak ⟨lx,cj⟩ (ak bK (ao (uJ _) (ak (by omega) (hn _ ⟨⟨lx,cj,sC,nb⟩,?_⟩))))))))
  ·rw[AK,<-hb,h];rfl
  rw[AK,<-hb,h,zcb,lP bK];exact eq2 out[k.toNat].2 l[i.toNat].1)
 (by
  rintro⟨l,out,i⟩ b k ae hk ⟨h1,hb⟩ ho;dsimp only at*
  (rw[<-TD];delta fX Zb wq By Af Hw yO Hx GD zn VM Zh qw ZC Zm yj VN qZ Z6 Z5 Zd)
  refine oC (by omega) (ho _ (λh=>by cases h) ?_);rw[hb,zag])
 (by rintro s ae ⟨l,out,i,b,rfl,⟨hb,h1⟩,hp⟩;refine⟨(l,out,i),b,rfl,⟨h1,by rw[hb];simp⟩,?_⟩;rintro x rfl;exact hp _ rfl)
theorem TN{l:List Hd}{i:Nat}(h:i<l.length):OA (l.take (i+1)) []=onS (OA (l.take i) []) l[i]:=by rw[zaf h];unfold OA;rw[zbd];rfl
theorem TO:LD X 25 4 (ah (aL 25 4) TG):=LD.idx (H:=[]) (hk:=[(8,ah (aL 25 8) TC)]) (by kernel_rfl) (by kernel_rfl) .nil (.cons TM .nil)
 (A:=List Hd) (B:=List Hd) (λm on i=>YT m on i) (λm=>m.length) (λm i on=>m.length<=1000000/\on=OA (m.take i) [])
 (λm x=>x=(.exit 0,⟨63,[(4,.sl 0 0 (OA m []).length)],[(0,⟨0,none,wo false (OA m [])⟩)]⟩))
 (by
  rintro m on i ae h0 cj bK ⟨sC,ho⟩ hn aW
  (rw[<-TE];delta GD zn wu Z7M Zb wq Yj OD Z7G Zh Zi Z6 Z5 Zd Ty Af By Hw yO Hx Du fX VM Z3 uG Z0 Zm yj VN qZ)
  have nb:on.length<=i.toNat:=by rw[ho];have:=wT (m.take i.toNat) [];rw[zat] at this;simp at this;omega
  have e2:D.nth (m.map fN) i.toNat=fN m[i.toNat]:=aG _ _ _ bK;have hg:=lP bK KE;have OC:=TN bK;generalize m[i.toNat]=g at hg OC e2;have t2:D.agg [D.int .i64 (D.aj (D.ax (fN g) 0)),D.int .i64 (D.aj (D.ax (fN g) 1)),D.int .i64 (D.aj (D.ax (fN g) 2)),D.int .i64 (D.aj (D.ax (fN g) 3))]=fN g:=rfl;refine bV cj ⟨m,on,i,false,rfl,⟨rfl,h0,cj,sC,by omega⟩,λh hh=> ?_⟩;rw[hg] at hh;rw[e2,t2,b7];simp only[zaa,zam,zay,zaI];refine az (λh1=>ak ⟨h0,cj⟩ (ak bK (ao (uJ _) (ao ?_ (ak (by omega) ?_))))) λh1=>ak (by omega) (hn _ ⟨sC,?_⟩)
  ·rw[zad];exact⟨by simp,dh (by omega) (by omega)⟩
  ·have hf:(on.any λy=>y.2==g.1)=false:=by rw[<-hh];simpa using h1
   have:=hn (on++[g]) ⟨sC,by rw[OC,<-ho,onS,zap (by rw[hf];simp)]⟩;simp only[YT,zaj,zam,zay,zaI] at this;exact this
  have hf:(on.any λy=>y.2==g.1)=true:=by rw[<-hh];simpa using h1
  rw[OC,<-ho,onS,zaq hf])
 (by
  rintro m on i ae hi ⟨sC,ho⟩ aW
  (rw[<-TE];delta GD zn wu Z7M Zb wq Yj OD Z7G Zh Zi Z6 Z5 Zd Ty Af By Hw yO Hx Du fX VM Z3 uG Z0 Zm yj VN qZ)
  refine oC (by omega) (aW _ (λh=>by cases h) ?_);rw[ho,zag])
 (by rintro s ae ⟨m,rfl,hs,hp⟩;refine⟨m,[],rfl,⟨hs,rfl⟩,?_⟩;rintro x rfl;exact hp _ rfl)
theorem TP:LD X 25 15 (ah (aL 25 15) TH):=LD.par (H:=[]) (hk:=[]) (by kernel_rfl) (by kernel_rfl) .nil .nil
 (A:=List Hd) (B:=Nat×List aO×Int) (λon b=>YU on b.2.1 b.2.2) (λon b=>on.length<=1000000/\b.1<=on.length/\b.2.2=(b.1:Int)-1/\b.2.1=((on.drop b.1).map (·.1)).reverse) (λ_ b=>b.1)
 (λon x=>x=(.exit 4,⟨63,[(8,.sl 0 0 ((on.map (·.1)).reverse).length)],[(0,⟨0,none,Ag false ((on.map (·.1)).reverse)⟩)]⟩))
 (by
  rintro on ⟨k,out,i⟩ ⟨hm,hk,hi,ho⟩;dsimp only at*
  (rw[<-qee];delta HI YV jO zt GD zn Zl Z6R Z7M Z6 Z5 Z7 Zb wq Z5q Ab By Af Hw yO Hx)
  cases k with
  |zero=>refine oC (by omega) ?_;rw[ho,zbn];rfl
  |succ k=>
   have bz:k<on.length:=by omega
   have nb:out.length<=on.length:=by rw[ho];simp
   have hik:i.toNat=k:=by omega
   have e1:D.nth (on.map fN) i.toNat=fN on[k]:=by rw[hik];exact aG _ _ _ bz
   have hd:on.drop k=on[k]::on.drop (k+1):=za9 bz;generalize on[k]=h at e1 hd;have t2:D.agg [D.int .i64 (D.aj (D.ax (fN h) 0)),D.int .i64 (D.aj (D.ax (fN h) 1))]=eD h.1:=rfl;rw[e1,t2,b7];simp only[zaa,zam,zay,zaI];refine bV (by omega) (ak ⟨by omega,by omega⟩ (ak (by omega) (ao (uJ _) (ao ?_ (ak (by omega) ?_)))))
   ·rw[zad];exact⟨by simp,dh (by omega) (by omega)⟩
   refine⟨k,Nat.lt_succ_self k,(k,out++[h.1],i-1),?_,⟨hm,by show k<=_;omega,by show i-1=(k:Int)-1;omega,?_⟩,rfl⟩
   ·simp only[YU,zaj,zam,zay,zaI]
   show out++[h.1]=_;rw[hd,ho];simp)
 (by rintro s ae ⟨on,i,rfl,⟨hi,hm⟩,hp⟩;refine⟨on,(on.length,[],i),rfl,⟨hm,zai _,hi,by simp⟩,?_⟩;rintro x rfl;exact hp _ rfl)
theorem NS(l:List Hd):cc NQ (Ad l)=(Nv l).reverse:=by
 have hp:(cc NQ (Ad l)).reverse.Perm (Ad l):=(zc3 _).trans (cI _);have hw:(cc NQ (Ad l)).Pairwise (λx y=>r8 x.1 y.1=false):=by
  have lin:K7 (λa b:aO=>r8 b a):=⟨λx=>tu.irr x,λx y z h1 h2=>tu.tr z y x h2 h1,λx y h1 h2=>(tu.q9 y x h1 h2).symm⟩
  exact uC lin (λh:Hd=>h.1) (Ad l)
 have e:=X9 hp (by rw[zcJ];exact hw);rw[<-e,List.reverse_reverse]
theorem qbn:FD X 25 TI:=FD.mk (H:=[(51,qeb)]) (hk:=[(4,ah (aL 25 4) TG),(15,ah (aL 25 15) TH)]) (by kernel_rfl) (.cons qgP .nil) (.cons TO (.cons TP .nil)) (by
 intro ps R ae hh;obtain⟨l,rfl,rfl,hs,hp⟩:=hh
 (rw[<-qgO];delta HI YV jO zt Zm VH NR GD zn rI Z7M Z6 yO Z5 Z7H Z3 ZB qZ Z7Q Du Zq)
 refine⟨l,rfl,rfl,hs,λo ho=>⟨o,rfl,?_,λo2 ho2=> ?_⟩⟩
 ·rw[ho,kA];have:=wS l;omega
 have hl:o2.length<=1000000:=by
  have h1:=wT o [];have h2:o.length<=l.length:=by rw[ho,kA];exact wS l
  rw[ho2];simp at h1;omega
 refine ak (by omega) ⟨o2,_,rfl,⟨rfl,hl⟩,λo3 ho3=>hp o3 ?_⟩;rw[ho3,ho2,ho,NS];rfl)
end
theorem YX{a b:aO}(h:eD a=eD b):a=b:=by
 obtain⟨a1,a2⟩:=a;obtain⟨b1,b2⟩:=b;unfold eD at h;injection h with h
 injection h with h1 h2
 injection h2 with h2 h3
 injection h1 with _ h1
 injection h2 with _ h2
 simp at h1 h2;rw[h1,h2]
theorem qef(a b:aO):D.tY (eD a) (eD b)=(a==b):=by rw[zbh,D.jY,zbp];exact⟨YX,λh=>by rw[h]⟩
section
variable{X:XF}
end
def JK(m:List av):Prop:=m.length<=1000000/\ ∀g∈m,1<=g.s.2/\g.s.2<=16/\1<=g.s.1/\g.s.1<=1099511627776/\1<=g.n/\g.n<=1099511627776
def JL:bh:=λps R ae=> ∃v r n,ps=[vD v,iD r,iD n]/\R=[]/\(v.length<=1000000/\1<=r/\r<=16)/\ ∀w,w=bM (gO v r n)->ae (.bI [vD w,iD 0],[])
theorem JK.sub{m k:List av}(h:JK m)(hs: ∀g∈k,g∈m)(hl:k.length<=1000000):JK k:=⟨hl,λg hg=>h.2 g (hs g hg)⟩
section
variable{X:XF}
theorem YY:FD X 40 JL:=Xf.weaken λps R ae h=>by obtain⟨v,r,n,rfl,rfl,⟨hs,h1,h2⟩,hp⟩:=h;exact⟨v,r,n,rfl,rfl,hs,λh=>absurd ⟨h1,h2⟩ h,λ_=>hp _ rfl⟩
theorem TQ{m:List av}{i:Nat}(h:i<m.length):sb (m.take (i+1))=max (sb (m.take i)) m[i].s.1:=by rw[zaf h,Sp]
end
def qir(r:Int)(x:av):Bool:=x.s.2==r
structure qi1(m:List av)(r i k:Int):Prop where
 len:m.length<=1000000
 i0:0<=i
 ik:k=i+1
 kl:k<=m.length
 eq:(m.take k.toNat).filter (qir r)=m.take i.toNat
theorem qgQ{a b:aq}(h:cb a=cb b):a=b:=by obtain⟨a1,a2,a3⟩:=a;obtain⟨b1,b2,b3⟩:=b;unfold cb at h;simp only[D.agg.injEq,zbX,D.int.injEq,zcM,zdd] at h;rw[h.1,h.2.1,h.2.2]
section
variable{X:XF}
end
abbrev qis(o:bs):Obj:= .box 91 [iD o.kind,iD o.node.1,iD o.node.2.1,iD o.node.2.2,iD o.parent.1,iD o.parent.2.1,iD o.parent.2.2,sD o.name,.d (.bool o.dir),lB o.db,iD o.after.1,iD o.after.2.1,iD o.after.2.2,iD o.elem.1,iD o.elem.2.1,iD o.elem.2.2,sD o.text,da o.elems]
def Lx(y:bs):List aT:=y.db.map λs=>(y.node,s)
def BJ(on:Bool)(y:bs)(_:Nat)(L:List D)(ju:Nat)(L':List D):Prop:=ju=L'.length/\L'=L++(if on=true then(Lx y).map ki else [])
def YZ(e:aq->Option Bool)(y:bs):aq->Option Bool:=λz=>if y.kind=0/\y.node=z then some y.dir else e z
def NT(d:D->Option D)(e:aq->Option Bool):Prop:= ∀z:aq,d (cb z)=(e z).map D.bool
structure HJ(t:Tl)(na np nh nl:Nat)(A P H L:List D):Prop where
 na:na=t.a.length
 np:np=t.p.length
 nh:nh=t.h.length
 nl:nl=t.g.length
 a:A=t.a.map cb
 p:P=t.p.map eV
 h:H=t.h.map ki
 l:L=t.g.map ki
theorem iy{n m b:Nat}{l:List D}{z:D}(h:n=m)(hl:l.length=m)(hb:m<=1000000000000)(hz:b<=100):(Nat.ble n l.length&&aJ (n+List.length [z]) b)=true:=by rw[zad];refine⟨by rw[zb7];omega,bL (zaE (Nat.mul_le_mul (by simp only[zam,zay];omega:n+List.length [z]<=1000000000001) hz) (by omega)) (by simp only[zam,zay];omega)⟩
theorem HJ.go{t:Tl}{na np nh nl:Nat}{A P H L:List D}(h:HJ t na np nh nl A P H L){on:Bool}{s:aO}{y:bs}{k:Nat}{i:Int}(hi:(k:Int)=i){ju:Nat}{L':List D}(hg:BJ on y nl L ju L'):
  (lQ on y=true->mU on y=true->HJ (SE on s t y k) (na+1) (np+1) (nh+1) ju (List.take na A++[cb (s.1,s.2,i)]) (List.take np P++[eV (Dn y)]) (List.take nh H++[ki (y.node,s)]) L')/\
  (lQ on y=true->mU on y=false->HJ (SE on s t y k) (na+1) (np+1) nh ju (List.take na A++[cb (s.1,s.2,i)]) (List.take np P++[eV (Dn y)]) H L')/\
  (lQ on y=false->mU on y=true->HJ (SE on s t y k) na np (nh+1) ju A P (List.take nh H++[ki (y.node,s)]) L')/\
  (lQ on y=false->mU on y=false->HJ (SE on s t y k) na np nh ju A P H L'):=by
 obtain⟨rfl,rfl,rfl,rfl,rfl,rfl,rfl,rfl⟩:=h;obtain⟨rfl,rfl⟩:=hg;subst hi;have hl:t.g.map ki++(if on=true then(Lx y).map ki else [])=(if on=true then t.g++y.db.map (λd=>(y.node,d)) else t.g).map ki:=by
  cases on
  ·simp
  simp[Lx]
 have t1:List.take t.a.length (t.a.map cb)=t.a.map cb:=zan (by simp);have t2:List.take t.p.length (t.p.map eV)=t.p.map eV:=zan (by simp);have t3:List.take t.h.length (t.h.map ki)=t.h.map ki:=zan (by simp);rw[t1,t2,t3,hl];refine⟨λh1 h2=> ?_,λh1 h2=> ?_,λh1 h2=> ?_,λh1 h2=> ?_⟩<;>(unfold SE;rw[h1,h2];constructor<;>simp)
theorem qeg(a b:aq):D.tY (cb a) (cb b)=(a==b):=by rw[zbh,D.jY,zbp];exact⟨qgQ,λh=>by rw[h]⟩
theorem NT.mk{d:D->Option D}{e:aq->Option Bool}(h:NT d e){y:bs}(hk:y.kind=0):NT (λk'=>bif D.tY (cb y.node) k' then some (.bool y.dir) else d k') (YZ e y):=λz=>by
 unfold YZ;show(bif D.tY (cb y.node) (cb z) then some (D.bool y.dir) else d (cb z))=_;rw[qeg,h z];by_cases hz:y.node=z
 ·rw[zaq ⟨hk,hz⟩,show(y.node==z)=true by simpa using hz];rfl
 rw[zap (λhh=>hz hh.2),show(y.node==z)=false by simpa using hz];rfl
theorem NT.no{d:D->Option D}{e:aq->Option Bool}(h:NT d e){y:bs}(hk: ¬y.kind=0):NT d (YZ e y):=λz=>by unfold YZ;rw[h z,zap (λhh=>hk hh.1)]
structure GaP where
 x:av
 y:bs
 g:List av
 o:List aO
 f:D->Option D
 c:Int
 d:D->Option D
 n:Int
 na:Nat
 np:Nat
 nh:Nat
 A:List D
 P:List D
 H:List D
 on:Bool
 i:Int
 L:List D
structure GaQ where
 x:av
 g:List av
 o:List aO
 f:D->Option D
 c:Int
 on:Bool
 t:Tl
 N:Nat
 e:aq->Option Bool
section
variable{X:XF}{w0:World}(hX:eG PR w0 X.cf)
include hX
end
def ql(x:Td):D:= .agg [iE x.1.1,iE x.1.2.1,iE x.1.2.2,iE x.2.1.1,iE x.2.1.2.1,iE x.2.1.2.2,iE x.2.2.1.1,iE x.2.2.1.2.1,iE x.2.2.1.2.2,.str x.2.2.2.1,.bool x.2.2.2.2]
abbrev qB(z:Bool)(l:List Td):Obj:= .arr 135 z (l.map ql)
abbrev rsA(a:List aq)(l:List Pl)(s:List Td)(i:Int):S:=⟨93,[(0,da a),(1,eC l),(5,.sl 0 0 s.length),(6,iD i)],[(0,⟨0,none,qB false s⟩)]⟩
abbrev rsB(a:List aq)(l:List Pl)(s:List Td)(i:Int)(h:Bool)(k:Int):S:=⟨93,[(0,da a),(1,eC l),(5,.sl 0 0 s.length),(6,iD i),(7,.d (.bool h)),(8,iD k)],[(0,⟨0,none,qB false s⟩)]⟩
abbrev rsC(a:List aq)(l:List Pl)(s:List Td)(n:Nat)(i k:Int):S:=⟨93,[(0,da a),(1,eC l),(5,.sl 0 0 n),(6,iD i),(9,iD k)],[(0,⟨0,none,qB false s⟩)]⟩
def rT(s:List Td)(k:Int):D:=D.nth (List.map ql s) (Zb k)
def VO(k:Int)(s:List Td):Bool:=decide (Zb k<List.length (List.map ql s))
def BK(s:List Td):Nat×En:=(0,En.mk 0 none (Obj.arr (135:TypeId) false (List.map ql s)))
def GV(s:List Td):List (Nat×En):=[BK s]
def zw(s:List Td):Nat×P:=(5,P.sl 0 0 (List.length s))
def oS(l:List Pl):Nat×P:=(1,ij l)
theorem qbo(a:List aq)(l:List Pl)(s:List Td)(i:Int)(h:Bool)(k:Int)(ae:PX×S->Prop):(bif decide (k<(↑(List.length s):Int)) then bif h then ob (Zd k) (ae (PX.normal,S.mk 93 (vX a::oS l::zw s::ei i::(7,ZC)::sc k) (GV s))) else ob (decide ((0:Int)<=k/\k<(↑(List.length s):Int))) (ob (VO k s) (ob (cT PR (135:TypeId) (rT s k)) (ob (Nq i a) (ob (wR a i) (ob (Zd k) (ae (PX.normal,S.mk 93 (vX a::oS l::zw s::ei i::(7,P.d (D.bool (D.aj (D.ax (rT s k) 0)==Hu a i&&(D.aj (D.ax (rT s k) 1)==Ht a i&&true)&&(D.aj (D.ax (rT s k) 2)==Hs a i&&true))))::sc k) (GV s)))))))) else ae (PX.exit 2,S.mk 93 [vX a,oS l,zw s,ei i,wv h] (GV s)))=(aC [] [] 52 7 (rsB a l s i h k)) ae:=by kernel_rfl
def qeh:S->K (PX×S):=λs ae=> ∃(a:List aq) (l:List Pl) (t:List Td) (i:Int) (hi:i.toNat<a.length),s=rsB a l t i false 0/\(t.length<=1000000/\0<=i/\i<a.length)/\ ∀b,b=(t.any λx=>x.1==a[i.toNat])->ae (.exit 2,⟨93,[(0,da a),(1,eC l),(5,.sl 0 0 t.length),(6,iD i),(7,.d (.bool b))],[(0,⟨0,none,qB false t⟩)]⟩)
def Z84(s:List Td)(k:Int):D:=D.int .i64 (D.aj (D.ax (rT s k) 8))
def Z83(s:List Td)(k:Int):D:=D.int .i64 (D.aj (D.ax (rT s k) 7))
def Z82(s:List Td)(k:Int):D:=D.int .i64 (D.aj (D.ax (rT s k) 6))
def Z81(s:List Td)(k:Int):D:=D.int .i64 (D.aj (D.ax (rT s k) 5))
def Z80(s:List Td)(k:Int):D:=D.int .i64 (D.aj (D.ax (rT s k) 4))
def Z7Z(s:List Td)(k:Int):D:=D.int .i64 (D.aj (D.ax (rT s k) 3))
def Z85(s:List Td)(k:Int):List D:=[Z7Z s k,Z80 s k,Z81 s k,Z82 s k,Z83 s k,Z84 s k,D.str (D.cm (D.ax (rT s k) 9)),D.bool (D.eY (D.ax (rT s k) 10))]
def Z86(s:List Td)(k:Int):List D:=D.int .i64 (D.aj (D.ax (rT s k) 0))::D.int .i64 (D.aj (D.ax (rT s k) 1))::D.int .i64 (D.aj (D.ax (rT s k) 2))::Z85 s k
def GW(s:List Td)(k:Int):D:=D.nth (List.map ql s) (Z8 k)
def Z87(s:List Td)(k:Int):List D:=List.set (List.map ql s) (Zb k) (D.bc (D.agg (Z86 s k)) [D.int .i64 (D.aj (D.ax (GW s k) 0)),D.int .i64 (D.aj (D.ax (GW s k) 1)),D.int .i64 (D.aj (D.ax (GW s k) 2)),D.int .i64 (D.aj (D.ax (GW s k) 3)),D.int .i64 (D.aj (D.ax (GW s k) 4)),D.int .i64 (D.aj (D.ax (GW s k) 5)),D.int .i64 (D.aj (D.ax (GW s k) 6)),D.int .i64 (D.aj (D.ax (GW s k) 7)),D.int .i64 (D.aj (D.ax (GW s k) 8)),D.str (D.cm (D.ax (GW s k) 9)),D.bool (D.eY (D.ax (GW s k) 10))])
def NU(s:List Td)(k:Int):D:=D.nth (Z87 s k) (Z8 k)
theorem qgR(a:List aq)(l:List Pl)(s:List Td)(n:Nat)(i k:Int)(ae:PX×S->Prop):(bif Zk k then ob (mZ k n) (ob (VO k s) (ob (cT PR (135:TypeId) (rT s k)) (ob (Z7 k) (ob (tT k n) (ob (decide (Z8 k<List.length (List.map ql s))) (ob (cT PR (135:TypeId) (GW s k)) (∃(t:Int) (r:Int) (aX:Int) (t':Int) (r':Int) (i':Int),[P.d (D.agg [D.int .i64 (D.aj (D.ax (rT s k) 0)),D.int .i64 (D.aj (D.ax (rT s k) 1)),D.int .i64 (D.aj (D.ax (rT s k) 2))]),P.d (D.agg [D.int .i64 (D.aj (D.ax (GW s k) 0)),D.int .i64 (D.aj (D.ax (GW s k) 1)),D.int .i64 (D.aj (D.ax (GW s k) 2))])]=P.d (D.agg (Zm t::Zm r::Zx aX))::ZM t' r' i'/\Zq/\bif SX t r aX t' r' i' then ob (Z7 k) (ob (Z7 k) (ob (tT k n) (ob (decide (Z8 k<List.length (List.map ql s))) (ob (cT PR (135:TypeId) (GW s k)) (ob (mZ k n) (ob (VO k s) (ob (cT PR (135:TypeId) (rT s k)) (ob (mZ k n) (ob (VO k s) (ob (cT PR (135:TypeId) (rT s k)) (ob (tT k n) (ob (decide (Z8 k<List.length (Z87 s k))) (ob (cT PR (135:TypeId) (NU s k)) (ob (Z7 k) (ae (PX.normal,S.mk 93 (vX a::oS l::Zv n::ei i::Z6R k) [(0,En.mk 0 none (Obj.arr (135:TypeId) false (List.set (Z87 s k) (Z8 k) (D.bc (D.agg [D.int .i64 (D.aj (D.ax (NU s k) 0)),D.int .i64 (D.aj (D.ax (NU s k) 1)),D.int .i64 (D.aj (D.ax (NU s k) 2)),D.int .i64 (D.aj (D.ax (NU s k) 3)),D.int .i64 (D.aj (D.ax (NU s k) 4)),D.int .i64 (D.aj (D.ax (NU s k) 5)),D.int .i64 (D.aj (D.ax (NU s k) 6)),D.int .i64 (D.aj (D.ax (NU s k) 7)),D.int .i64 (D.aj (D.ax (NU s k) 8)),D.str (D.cm (D.ax (NU s k) 9)),D.bool (D.eY (D.ax (NU s k) 10))]) (Z86 s k)))))])))))))))))))))) else ae (PX.exit 4,S.mk 93 (vX a::oS l::Zv n::BH i) (GV s))))))))) else ae (PX.exit 4,S.mk 93 (vX a::oS l::Zv n::BH i) (GV s)))=(aC [(55,iN)] [] 52 13 (rsC a l s n i k)) ae:=by kernel_rfl
def qei:S->K (PX×S):=λs ae=> ∃a l t x n i k,s=rsC a l (t++[x]) n i k/\(k=(t.length:Int)/\n=t.length+1/\t.length<=1000000)/\ ∀t',t'=ct ltT t x->ae (.exit 4,rsA a l t' i)
def Z8a(iz:List aq)(aX:Int)(ar:List Pl):List D:=[D.agg (D.int .i64 (Hu iz aX)::D.int .i64 (Ht iz aX)::D.int .i64 (Hs iz aX)::OG ar aX)]
def Z8b(t:List Td)(iz:List aq)(aX:Int)(ar:List Pl):Int:=(↑(List.length t+List.length (Z8a iz aX ar)):Int)-(1:Int)
def Z89(iz:List aq)(ar:List Pl)(t:List Td)(aX:Int):S:=S.mk 93 (vX iz::oS ar::zw t::ei aX::(7,P.d Z0)::yT) (GV t)
theorem qbp(a:List aq)(l:List Pl)(s:List Td)(i:Int)(ae:PX×S->Prop):(bif decide (i<Bs a) then bif Lk i l then∃(iz:List aq) (ar:List Pl) (t:List Td) (aX:Int) (hi:Int.toNat aX<List.length iz),Z89 a l s i=Z89 iz ar t aX/\(List.length t<=1000000/\(0:Int)<=aX/\aX<tU iz)/\ ∀(b:Bool),(b=List.any t λ(x:Td)=>Prod.fst x==iz[Int.toNat aX])->bif b then ob (Zd aX) (ae (PX.normal,S.mk 93 (vX iz::oS ar::zw t::Zt aX) (GV t))) else ob (Nq aX iz) (ob (wR iz aX) (ob (BE aX ar) (ob (oV ar aX) (ob (Nat.ble (List.length t) (List.length (List.map ql t))&&aJ (List.length t+List.length (Z8a iz aX ar)) 96) (ob (decide (Z5<=Z8b t iz aX ar/\Z8b t iz aX ar<=Z6)) (∃(a:List aq) (l:List Pl) (kZ:List Td) (x:Td) (n:Nat) (i:Int) (k:Int),S.mk 93 [vX iz,oS ar,(5,P.sl 0 0 (List.length t+List.length (Z8a iz aX ar))),ei aX,(9,P.d (D.int .i64 (Z8b t iz aX ar)))] [(0,En.mk 0 none (Obj.arr (135:TypeId) false (List.take (List.length t) (List.map ql t)++Z8a iz aX ar)))]=S.mk 93 (vX a::oS l::Zv n::ei i::VH k) [(0,En.mk 0 none (Obj.arr (135:TypeId) false (List.map ql (kZ++[x]))))]/\(k=(↑(List.length kZ):Int)/\n=List.length kZ+1/\List.length kZ<=1000000)/\ ∀(t':List Td),t'=ct ltT kZ x->ob (Zd i) (ae (PX.normal,S.mk 93 (vX a::oS l::zw t'::Zt i) (GV t'))))))))) else ae (PX.exit 0,S.mk 93 [zw s] (GV s)) else ae (PX.exit 0,S.mk 93 [zw s] (GV s)))=(aC [] [(7,ah (aL 52 7) qeh),(13,ah (aL 52 13) qei)] 52 3 (rsA a l s i)) ae:=by kernel_rfl
def qej:S->K (PX×S):=λs ae=> ∃a l,s=rsA a l [] 0/\(a.length<=1000000/\l.length=a.length)/\ ∀t,t=Ah a l->ae (.exit 0,⟨93,[(5,.sl 0 0 t.length)],[(0,⟨0,none,qB false t⟩)]⟩)
def Z8c(iz:List aq)(ar:List Pl):S:=S.mk 93 (vX iz::oS ar::Tk) [(0,En.mk 0 none (Obj.arr (135:TypeId) false []))]
theorem qgS(a:List aq)(l:List Pl)(ae:P×List (Nat×En)->Prop):(∃(iz:List aq) (ar:List Pl),Z8c a l=Z8c iz ar/\(mq iz/\jA ar=gk iz)/\ ∀(t:List Td),t=Ah iz ar->ae (P.sl 0 0 (List.length t),GV t))=(aK [] [(3,ah (aL 52 3) qej)] 52 [da a,eC l] []) ae:=by kernel_rfl
def qek:bh:=λps R ae=> ∃a l,ps=[da a,eC l]/\R=[]/\(a.length<=1000000/\l.length=a.length)/\ ∀t,t=Ah a l->ae (.sl 0 0 t.length,[(0,⟨0,none,qB false t⟩)])
def qel:bh:=λps R ae=> ∃l x y,ps=[.sl 0 0 l.length,.d (cb x),.d (cb y)]/\R=BF false l/\l.length<=1000000/\ ∀b,b=within l x y->ae (.d (.bool b),BF false l)
abbrev rpA(t:List Td)(o:List Pl)(i:Int):S:=⟨96,[(5,.sl 0 0 t.length),(6,.sl 1 0 o.length),(7,iD i)],[(0,⟨0,none,qB false t⟩),(1,⟨0,none,pQ false o⟩)]⟩
abbrev rpB(t:List Td)(o:List Pl)(m:Nat)(i k:Int):S:=⟨96,[(5,.sl 0 0 t.length),(6,.sl 1 0 m),(7,iD i),(10,iD k)],[(0,⟨0,none,qB false t⟩),(1,⟨0,none,pQ false o⟩)]⟩
def Z8g(ae:PX×S->Prop)(t:List Td)(m:Nat)(i:Int)(o:List Pl):Prop:=ae (PX.exit 2,S.mk 96 [zw t,FU m,oW i] (BK t::GO o))
def Ly(o:List Pl)(k:Int):D:=D.nth (fZ o) (Z8 k)
def Z8e(o:List Pl)(k:Int):List D:=List.set (fZ o) (Zb k) (D.bc (D.agg (OG o k)) [D.int .i64 (D.aj (D.ax (Ly o k) 0)),D.int .i64 (D.aj (D.ax (Ly o k) 1)),D.int .i64 (D.aj (D.ax (Ly o k) 2)),D.int .i64 (D.aj (D.ax (Ly o k) 3)),D.int .i64 (D.aj (D.ax (Ly o k) 4)),D.int .i64 (D.aj (D.ax (Ly o k) 5)),D.str (D.cm (D.ax (Ly o k) 6)),D.bool (D.eY (D.ax (Ly o k) 7))])
def VP(o:List Pl)(k:Int):D:=D.nth (Z8e o k) (Z8 k)
theorem qgT(t:List Td)(o:List Pl)(m:Nat)(i k:Int)(ae:PX×S->Prop):(bif Zk k then ob (mZ k m) (ob (Hy k o) (ob (oV o k) (ob (Z7 k) (ob (tT k m) (ob (decide (Z8 k<qh o)) (ob (cT PR (93:TypeId) (Ly o k)) (∃(kZ:Int) (r:Int) (aX:Int) (t':Int) (r':Int) (i':Int),[JE o k,P.d (D.agg [D.int .i64 (D.aj (D.ax (Ly o k) 0)),D.int .i64 (D.aj (D.ax (Ly o k) 1)),D.int .i64 (D.aj (D.ax (Ly o k) 2))])]=P.d (D.agg (Zm kZ::Zm r::Zx aX))::ZM t' r' i'/\Zq/\bif SX kZ r aX t' r' i' then ob (Z7 k) (ob (Z7 k) (ob (tT k m) (ob (decide (Z8 k<qh o)) (ob (cT PR (93:TypeId) (Ly o k)) (ob (mZ k m) (ob (Hy k o) (ob (oV o k) (ob (mZ k m) (ob (Hy k o) (ob (oV o k) (ob (tT k m) (ob (decide (Z8 k<List.length (Z8e o k))) (ob (cT PR (93:TypeId) (VP o k)) (ob (Z7 k) (ae (PX.normal,S.mk 96 [zw t,FU m,oW i,(10,Zl k)] [BK t,(1,En.mk 0 none (Obj.arr (93:TypeId) false (List.set (Z8e o k) (Z8 k) (D.bc (D.agg [D.int .i64 (D.aj (D.ax (VP o k) 0)),D.int .i64 (D.aj (D.ax (VP o k) 1)),D.int .i64 (D.aj (D.ax (VP o k) 2)),D.int .i64 (D.aj (D.ax (VP o k) 3)),D.int .i64 (D.aj (D.ax (VP o k) 4)),D.int .i64 (D.aj (D.ax (VP o k) 5)),D.str (D.cm (D.ax (VP o k) 6)),D.bool (D.eY (D.ax (VP o k) 7))]) (OG o k)))))])))))))))))))))) else Z8g ae t m i o))))))) else Z8g ae t m i o)=(aC [(55,iN)] [] 29 14 (rpB t o m i k)) ae:=by kernel_rfl
def qem:S->K (PX×S):=λs ae=> ∃t o x m i k,s=rpB t (o++[x]) m i k/\(k=(o.length:Int)/\m=o.length+1/\o.length<=1000000)/\ ∀o',o'=ct ltN o x->ae (.exit 2,rpA t o' i)
def Z8i(o:List Pl)(t:List Td)(i:Int):Nat:=jA o+List.length [D.agg (Z85 t i)]
def Z8j(t:List Td)(i:Int):List P:=[P.d (D.agg [Z7Z t i,Z80 t i,Z81 t i])]
def Z8h(t:List Td)(o:List Pl)(i:Int):List (Nat×P):=zw t::(6,P.sl 1 0 (jA o))::qw i
theorem qbq(t:List Td)(o:List Pl)(i:Int)(ae:PX×S->Prop):(bif decide (i<(↑(List.length t):Int)) then ob (decide ((0:Int)<=i/\i<(↑(List.length t):Int))) (ob (VO i t) (ob (cT PR (135:TypeId) (rT t i)) (bif D.aj (D.ax (rT t i) 3)==(0:Int)&&(D.aj (D.ax (rT t i) 4)==(0:Int)&&true)&&(D.aj (D.ax (rT t i) 5)==(0:Int)&&true) then ob (Zd i) (ae (PX.normal,S.mk 96 (Z8h t o i) (BK t::GO o))) else∃(l:List Pl) (x:aq) (y:aq),q5 o::P.d (D.agg [Z82 t i,Z83 t i,Z84 t i])::Z8j t i=q5 l::nc x::iP y/\Yw o=Yw l/\n5 l/\ ∀(b:Bool),b=within l x y->bif b then ob (Zd i) (ae (PX.normal,S.mk 96 (Z8h t o i) (BK t::GO l))) else∃(ar:List Pl) (x:aq),q5 o::Z8j t i=q5 ar::iP x/\Yw l=Yw ar/\n5 ar/\bif decide (eJ ar x>=(0:Int)) then ob (decide ((0:Int)<=eJ ar x/\eJ ar x<(↑(jA o):Int))) (ob (Z61 ar x) (ob (cT PR (93:TypeId) (DW ar x)) (ob (decide ((0:Int)<=eJ ar x/\eJ ar x<(↑(jA o):Int))) (ob (Z61 ar x) (ob (cT PR (93:TypeId) (DW ar x)) (ob (Zd i) (ae (PX.normal,S.mk 96 (Z8h t o i) [BK t,(1,En.mk 0 none (Obj.arr (93:TypeId) false (List.set (fZ ar) (Int.toNat (eJ ar x)) (D.bc (D.agg [D.int .i64 (D.aj (D.ax (DW ar x) 0)),D.int .i64 (D.aj (D.ax (DW ar x) 1)),D.int .i64 (D.aj (D.ax (DW ar x) 2)),D.int .i64 (D.aj (D.ax (DW ar x) 3)),D.int .i64 (D.aj (D.ax (DW ar x) 4)),D.int .i64 (D.aj (D.ax (DW ar x) 5)),D.str (D.cm (D.ax (DW ar x) 6)),D.bool (D.eY (D.ax (DW ar x) 7))]) [Z7Z t i,Z80 t i,Z81 t i,Z82 t i,Z83 t i,Z84 t i,D.str (D.cm (D.ax (rT t i) 9)),D.bool (D.eY (D.ax (DW ar x) 7))]))))])))))))) else ob (Nat.ble (jA o) (qh ar)&&aJ (Z8i o t i) 72) (ob (decide (Z5<=(↑(Z8i o t i):Int)-(1:Int)/\(↑(Z8i o t i):Int)-(1:Int)<=Z6)) (∃(kZ:List Td) (aZ:List Pl) (x:Pl) (m:Nat) (aX:Int) (k:Int),S.mk 96 [zw t,(6,P.sl 1 0 (Z8i o t i)),oW i,(10,P.d (D.int .i64 ((↑(Z8i o t i):Int)-(1:Int))))] [BK t,(1,En.mk 0 none (Obj.arr (93:TypeId) false (List.take (jA o) (fZ ar)++[D.agg (Z85 t i)])))]=S.mk 96 [zw kZ,FU m,oW aX,(10,P.d (Zm k))] [BK kZ,(1,En.mk 0 none (Obj.arr (93:TypeId) false (List.map eV (aZ++[x]))))]/\(k=(↑(jA aZ):Int)/\m=jA aZ+1/\n5 aZ)/\ ∀(o':List Pl),o'=ct ltN aZ x->ob (Zd aX) (ae (PX.normal,S.mk 96 (Z8h kZ o' aX) (BK kZ::GO o')))))))) else ae (PX.exit 0,S.mk 96 [(6,q5 o)] (tB o)))=(aC [(53,qel),(54,GM)] [(14,ah (aL 29 14) qem)] 29 4 (rpA t o i)) ae:=by kernel_rfl
def qen:S->K (PX×S):=λs ae=> ∃t,s=rpA t [] 0/\t.length<=1000000/\ ∀o,o=HE t->ae (.exit 0,⟨96,[(6,.sl 0 0 o.length)],[(0,⟨0,none,pQ false o⟩)]⟩)
def Z8k(kZ:List Td):S:=S.mk 96 (zw kZ::Z6W) [BK kZ,(1,DX)]
theorem qit(a:List aq)(l:List Pl)(ae:P×List (Nat×En)->Prop):(∃(iz:List aq) (ar:List Pl),[iw a,ij l]=[iw iz,ij ar]/\Zq/\(mq iz/\jA ar=gk iz)/\ ∀(t:List Td),t=Ah iz ar-> ∃(kZ:List Td),Z8k t=Z8k kZ/\List.length kZ<=1000000/\ ∀(o:List Pl),o=HE kZ->ae (q5 o,tB o))=(aK [(52,qek)] [(4,ah (aL 29 4) qen)] 29 [da a,eC l] []) ae:=by kernel_rfl
def qeo:bh:=λps R ae=> ∃a l,ps=[da a,eC l]/\R=[]/\(a.length<=1000000/\l.length=a.length)/\ ∀o,o=HE (Ah a l)->ae (.sl 0 0 o.length,[(0,⟨0,none,pQ false o⟩)])
theorem GX(x:Td):cT PR 135 (ql x)=true:=by kernel_rfl
section
variable{X:XF}
theorem qgU:FD X 53 qel:=qbg.weaken λps R ae h=>by obtain⟨l,x,y,rfl,rfl,hm,hp⟩:=h;exact⟨false,l,x,y,rfl,rfl,hm,hp⟩
theorem Y0:LD X 52 7 (ah (aL 52 7) qeh):=LD.idx (H:=[]) (hk:=[]) (by kernel_rfl) (by kernel_rfl) .nil .nil
 (A:=List aq×List Pl×List Td×Int×aq) (B:=Bool) (λa b k=>rsB a.1 a.2.1 a.2.2.1 a.2.2.2.1 b k) (λa=>a.2.2.1.length) (λa k b=>(a.2.2.1.length<=1000000/\0<=a.2.2.2.1/\a.2.2.2.1<a.1.length/\D.nth (a.1.map cb) a.2.2.2.1.toNat=cb a.2.2.2.2)/\b=((a.2.2.1.take k).any λx=>x.1==a.2.2.2.2))
 (λa x=>x=(.exit 2,⟨93,[(0,da a.1),(1,eC a.2.1),(5,.sl 0 0 a.2.2.1.length),(6,iD a.2.2.2.1),(7,.d (.bool (a.2.2.1.any λx=>x.1==a.2.2.2.2)))],[(0,⟨0,none,qB false a.2.2.1⟩)]⟩))
 (by
  rintro⟨a,l,t,i,y⟩ b k ae h0 r4 dy ⟨⟨hm,lx,cj,hy⟩,hb⟩ hn ho
  try dsimp only at*
  (rw[<-qbo];delta fX wv Zb fM Hs Ht Hu wR oQ Bs Nq rT VO BK GV Zh sc ZC Zm ei zw fZ ij oS iw vX Z6 Z5 Zd)
  have e1:D.nth (t.map ql) k.toNat=ql t[k.toNat]:=aG _ _ _ dy;have lC:(t.take (k.toNat+1)).any (λx=>x.1==y)=(b ||t[k.toNat].1==y):=by rw[zaf dy,zcc,hb];simp
  rw[e1,hy];generalize t[k.toNat]=z at*
  simp only[zaa];refine bV r4 ?_;have v:(D.aj (D.ax (ql z) 0)==D.aj (D.ax (cb y) 0)&&(D.aj (D.ax (ql z) 1)==D.aj (D.ax (cb y) 1)&&true)&&(D.aj (D.ax (ql z) 2)==D.aj (D.ax (cb y) 2)&&true))=(z.1==y):=RW z.1 y;rw[v];refine az (λBI=>ak (by omega) (hn true ⟨⟨hm,lx,cj,hy⟩,by rw[lC,BI,Bool.true_or]⟩)) λv7=>ak ⟨h0,r4⟩ (ak (by first |exact dy |simpa using dy) (ao (GX _) (ak ⟨lx,cj⟩ (ao (mQ _) (ak (by omega) (hn _ ⟨⟨hm,lx,cj,hy⟩,by rw[lC,v7,zcb]⟩)))))))
 (by
  rintro⟨a,l,t,i,y⟩ b k ae hk ⟨⟨hm,lx,cj,hy⟩,hb⟩ ho
  try dsimp only at*
  (rw[<-qbo];delta fX wv Zb fM Hs Ht Hu wR oQ Bs Nq rT VO BK GV Zh sc ZC Zm ei zw fZ ij oS iw vX Z6 Z5 Zd)
  refine oC (by omega) (ho _ (λh=>by cases h) ?_);rw[hb,zag])
 (by rintro s ae ⟨a,l,t,i,hi,rfl,⟨h1,h2,h3⟩,hp⟩;refine⟨(a,l,t,i,a[i.toNat]),false,rfl,⟨⟨h1,h2,h3,aG _ _ _ hi⟩,by simp⟩,?_⟩;rintro x rfl;exact hp _ rfl)
theorem Y1:LD X 52 13 (ah (aL 52 13) qei):=LD.ins (H:=[(55,iN)]) (hk:=[]) (by kernel_rfl) (by kernel_rfl) (.cons la .nil) .nil
 (A:=List aq×List Pl×Nat×Int) (α:=Td) (λa o k=>rsC a.1 a.2.1 o a.2.2.1 a.2.2.2 k) ltT (λa=>a.2.2.1) (λ_=>True) (λa o=>(.exit 4,⟨93,[(0,da a.1),(1,eC a.2.1),(5,.sl 0 0 a.2.2.1),(6,iD a.2.2.2)],[(0,⟨0,none,qB false o⟩)]⟩)) (λ_ _ h=>by cases h)
 (by
  rintro⟨a,l,n,i⟩ o k ae _ h0 yV nb hk hz bk bC
  try dsimp only at*
  subst yV
  (rw[<-qgR];delta BK GV Zm ei BH Zb rT Z84 Z83 Z82 Z81 Z80 Z7Z Z85 Z86 Zl Z6R Zu Zv fZ ij oS fM iw vX Z8 GW Z87 NU SX Zq Zx ZM tT Z6 Z5 Z7 VO mZ Zk)
  refine gT (λhp=> ?_) λhp=>hz (by omega);have gJ:k.toNat-1<o.length:=by omega
  have ek:(k-1).toNat=k.toNat-1:=by omega
  have e1:D.nth (o.map ql) k.toNat=ql o[k.toNat]:=aG _ _ _ hk;have e2:D.nth (o.map ql) (k.toNat-1)=ql o[k.toNat-1]:=aG _ _ _ gJ;have bk:=bk hp;have bC:=bC hp;have uN:=iQ ql o k.toNat o[k.toNat] o[k.toNat-1];have e3: ∀z,D.nth ((o.map ql).set k.toNat z) (k.toNat-1)=ql o[k.toNat-1]:=λz=>by unfold D.nth;rw[zab,zaY (by omega)];simp[gJ]
  rw[ek,e1,e2];simp only[e3];generalize o[k.toNat]=x at*
  generalize o[k.toNat-1]=y at*
  simp only[zaa,zbi] at bC⊢;have uO:0<=k/\k<(o.length:Int):=⟨h0,by omega⟩
  have uP:0<=k-1/\k-1<(o.length:Int):=⟨by omega,by omega⟩
  have hf:(-9223372036854775808:Int)<=k-1/\k-1<=9223372036854775807:=by omega
  refine ak uO (ak hk (ao (GX _) (ak hf (ak uP (ak gJ (ao (GX _) ⟨(x.1).1,(x.1).2.1,(x.1).2.2,(y.1).1,(y.1).2.1,(y.1).2.2,rfl,rfl,gT (λh=> ?_) λh=>bk (by rw[<-zbS];exact λh2=>h ((ib (x.1) (y.1)).2 h2))⟩))))));have hy:=bC ((ib (x.1) (y.1)).1 h);simp only[rsC,qB] at hy;rw[<-uN] at hy;refine ak hf (ak hf (ak uP (ak gJ (ao (GX _) (ak uO (ak hk (ao (GX _) (ak uO (ak hk (ao (GX _) (ak uP (ak gJ (ao (GX _) (ak hf ?_))))))))))))));exact hy)
 (by rintro s ae ⟨a,l,o,x,n,i,k,rfl,⟨hk,hn,ho⟩,hp⟩;refine⟨(a,l,n,i),o,x,k,rfl,hk,trivial,⟨hn.symm,ho⟩,?_⟩;have:=hp _ rfl;rw[rsA,js,<-hn] at this;exact this)
theorem Y2{a:List aq}{l:List Pl}{i:Nat}(h:i<a.length)(h2:i<l.length):Ah (a.take (i+1)) (l.take (i+1))=VI (Ah (a.take i) (l.take i)) (a[i],l[i]):=by unfold Ah;rw[zaf h,zaf h2,List.zip_append (by rw[zat,zat];omega),zbd];rfl
theorem Y3:LD X 52 3 (ah (aL 52 3) qej):=LD.idx (H:=[]) (hk:=[(7,ah (aL 52 7) qeh),(13,ah (aL 52 13) qei)]) (by kernel_rfl) (by kernel_rfl) .nil (.cons Y0 (.cons Y1 .nil))
 (A:=List aq×List Pl) (B:=List Td) (λa t i=>rsA a.1 a.2 t i) (λa=>a.1.length) (λa i t=>(a.1.length<=1000000/\a.2.length=a.1.length)/\t=Ah (a.1.take i) (a.2.take i))
 (λa x=>x=(.exit 0,⟨93,[(5,.sl 0 0 (Ah a.1 a.2).length)],[(0,⟨0,none,qB false (Ah a.1 a.2)⟩)]⟩))
 (by
  rintro⟨a,l⟩ t i ae h0 cj bK ⟨hm,ht⟩ hn ho
  try dsimp only at*
  (rw[<-qbp];delta Zm VH Zu Zv ei Z6 Zb fZ nf JB JC JD OG fM Hs Ht Hu Z8a Z8b Z5 oV qh BE wR oQ Bs Nq BK GV Zh Zt zw ij oS iw vX Zd gk tU Z3 yT Z0 Z89 Lk)
  have NV:i.toNat<l.length:=by omega
  have htl:t.length<=i.toNat:=by have:=n9 (a.take i.toNat) (l.take i.toNat);rw[zat] at this;rw[ht];omega
  have e1:D.nth (a.map cb) i.toNat=cb a[i.toNat]:=aG _ _ _ bK;have e2:D.nth (l.map eV) i.toNat=eV l[i.toNat]:=aG _ _ _ NV;have ng:=Y2 bK NV;rw[<-ht] at ng;have b9:=λt' (h:t'=VI t (a[i.toNat],l[i.toNat]))=>hn t' ⟨hm,by rw[ng];exact h⟩;simp only[zaa];refine bV cj (bV (by omega) ⟨a,l,t,i,bK,rfl,⟨by omega,h0,cj⟩,λb hb=> ?_⟩);rw[e1,e2];generalize a[i.toNat]=x at*
  generalize l[i.toNat]=p at*
  refine az (λBI=>ak (by omega) (b9 t ?_)) λv7=> ?_
  ·unfold VI;rw[zaq (by rw[<-hb];exact BI)]
  have Tt:VI t (x,p)=ct ltT t (x,p):=by unfold VI;rw[zap (by rw[<-hb,v7];simp)]
  have t1:List.take t.length (t.map ql)++[ql (x,p)]=(t++[(x,p)]).map ql:=b7 ql t (x,p);simp only[zam,zay,zaI];refine ak ⟨h0,cj⟩ (ao (mQ _) (ak ⟨h0,by omega⟩ (ao (ia _) (ao ?_ (ak (by omega) ⟨a,l,t,(x,p),t.length+1,i,((t.length+1:Nat):Int)-1,congrArg (λz=>(⟨93,[(0,da a),(1,eC l),(5,.sl 0 0 (t.length+1)),(6,iD i),(9,iD (((t.length+1:Nat):Int)-1))],[(0,⟨0,none,.arr 135 false z⟩)]⟩:S)) t1,⟨by omega,rfl,by omega⟩,λt' ht'=>ak (by omega) (b9 t' (by rw[Tt];exact ht'))⟩)))));rw[zad];exact⟨by simp,dh (by omega) (by omega)⟩)
 (by
  rintro⟨a,l⟩ t i ae hi ⟨hm,ht⟩ ho
  try dsimp only at*
  (rw[<-qbp];delta Zm VH Zu Zv ei Z6 Zb fZ nf JB JC JD OG fM Hs Ht Hu Z8a Z8b Z5 oV qh BE wR oQ Bs Nq BK GV Zh Zt zw ij oS iw vX Zd gk tU Z3 yT Z0 Z89 Lk)
  refine oC (by simp only[zaa];omega) (ho _ (λh=>by cases h) ?_);rw[ht,zag,<-hm.2,zag])
 (by rintro s ae ⟨a,l,rfl,hm,hp⟩;refine⟨(a,l),[],rfl,⟨hm,rfl⟩,?_⟩;rintro x rfl;exact hp _ rfl)
theorem qgV:FD X 52 qek:=FD.mk (H:=[]) (hk:=[(3,ah (aL 52 3) qej)]) (by kernel_rfl) .nil (.cons Y3 .nil) (by
 intro ps R ae hh;obtain⟨a,l,rfl,rfl,hm,hp⟩:=hh
 (rw[<-qgS];delta BK GV gk jA mq Z3 DZ ZE Tk fZ ij oS fM iw vX Z8c)
 exact⟨a,l,rfl,hm,λt ht=>hp t ht⟩)
theorem Y4:LD X 29 14 (ah (aL 29 14) qem):=LD.ins (H:=[(55,iN)]) (hk:=[]) (by kernel_rfl) (by kernel_rfl) (.cons la .nil) .nil
 (A:=List Td×Nat×Int) (α:=Pl) (λa o k=>rpB a.1 o a.2.1 a.2.2 k) ltN (λa=>a.2.1) (λ_=>True) (λa o=>(.exit 2,⟨96,[(5,.sl 0 0 a.1.length),(6,.sl 1 0 a.2.1),(7,iD a.2.2)],[(0,⟨0,none,qB false a.1⟩),(1,⟨0,none,pQ false o⟩)]⟩)) (λ_ _ h=>by cases h)
 (by
  rintro⟨t,m,i⟩ o k ae _ h0 yV nb hk hz bk bC
  try dsimp only at*
  subst yV
  (rw[<-qgT];delta fZ Hz GO BK Zm oW FU zw Z8g Zb nf JB JC JD OG Zl Z8 Ly Z8e VP SX Zq Zx ZM JE qh tT Z6 Z5 Z7 oV Hy mZ Zk)
  refine gT (λhp=> ?_) λhp=>hz (by omega);have gJ:k.toNat-1<o.length:=by omega
  have ek:(k-1).toNat=k.toNat-1:=by omega
  have e1:D.nth (o.map eV) k.toNat=eV o[k.toNat]:=aG _ _ _ hk;have e2:D.nth (o.map eV) (k.toNat-1)=eV o[k.toNat-1]:=aG _ _ _ gJ;have bk:=bk hp;have bC:=bC hp;have uN:=iQ eV o k.toNat o[k.toNat] o[k.toNat-1];have e3: ∀z,D.nth ((o.map eV).set k.toNat z) (k.toNat-1)=eV o[k.toNat-1]:=λz=>by unfold D.nth;rw[zab,zaY (by omega)];simp[gJ]
  rw[ek,e1,e2];simp only[e3];generalize o[k.toNat]=x at*
  generalize o[k.toNat-1]=y at*
  simp only[zaa,zbi] at bC⊢;have uO:0<=k/\k<(o.length:Int):=⟨h0,by omega⟩
  have uP:0<=k-1/\k-1<(o.length:Int):=⟨by omega,by omega⟩
  have hf:(-9223372036854775808:Int)<=k-1/\k-1<=9223372036854775807:=by omega
  refine ak uO (ak hk (ao (ia _) (ak hf (ak uP (ak gJ (ao (ia _) ⟨(x.1).1,(x.1).2.1,(x.1).2.2,(y.1).1,(y.1).2.1,(y.1).2.2,rfl,rfl,gT (λh=> ?_) λh=>bk (by rw[<-zbS];exact λh2=>h ((ib (x.1) (y.1)).2 h2))⟩))))));have hy:=bC ((ib (x.1) (y.1)).1 h);simp only[rpB,pQ,qB] at hy;rw[<-uN] at hy;refine ak hf (ak hf (ak uP (ak gJ (ao (ia _) (ak uO (ak hk (ao (ia _) (ak uO (ak hk (ao (ia _) (ak uP (ak gJ (ao (ia _) (ak hf ?_))))))))))))));exact hy)
 (by rintro s ae ⟨t,o,x,m,i,k,rfl,⟨hk,hn,ho⟩,hp⟩;refine⟨(t,m,i),o,x,k,rfl,hk,trivial,⟨hn.symm,ho⟩,?_⟩;have:=hp _ rfl;rw[rpA,js,<-hn] at this;exact this)
theorem Y5{t:List Td}{i:Nat}(h:i<t.length):HE (t.take (i+1))=S5 (HE (t.take i)) t[i]:=by unfold HE;rw[zaf h,zbd];rfl
theorem Y6:LD X 29 4 (ah (aL 29 4) qen):=LD.idx (H:=[(53,qel),(54,GM)]) (hk:=[(14,ah (aL 29 14) qem)]) (by kernel_rfl) (by kernel_rfl) (.cons qgU (.cons SZ .nil)) (.cons Y4 .nil)
 (A:=List Td) (B:=List Pl) (λt o i=>rpA t o i) (λt=>t.length) (λt i o=>t.length<=1000000/\o=HE (t.take i))
 (λt x=>x=(.exit 0,⟨96,[(6,.sl 0 0 (HE t).length)],[(0,⟨0,none,pQ false (HE t)⟩)]⟩))
 (by
  rintro t o i ae h0 cj bK ⟨hm,ho⟩ hn aW
  (rw[<-qbq];delta fZ Hz tB Zm FU Zb rT Z84 Z83 Z82 Z81 Z80 Z7Z Z85 oW zw Z6 Z5 jA Z8i qh DW Z61 n5 Yw fB fD fC fw fy nc iP Z8j q5 GO BK Zh qw Z8h Zd VO)
  have nb:o.length<=i.toNat:=by have:=qj (t.take i.toNat);rw[zat] at this;rw[ho];omega
  have e1:D.nth (t.map ql) i.toNat=ql t[i.toNat]:=aG _ _ _ bK;have ng:=Y5 bK;rw[<-ho] at ng;have b9:=λo' (h:o'=S5 o t[i.toNat])=>hn o' ⟨hm,by rw[ng];exact h⟩;rw[e1];generalize t[i.toNat]=y at*
  have v:(D.aj (D.ax (ql y) 3)==0&&(D.aj (D.ax (ql y) 4)==0&&true)&&(D.aj (D.ax (ql y) 5)==0&&true))=(y.2.1==aD):=RW y.2.1 aD;have qiu:i.toNat<(t.map ql).length:=by rw[zaa];exact bK
  rw[v];simp only[zam,zay,zaI];refine bV cj (ak ⟨h0,cj⟩ (ak qiu (ao (GX _) ?_)));refine az (λhr=>ak (by omega) (b9 o ?_)) λhr=>⟨o,y.2.2.1,y.2.1,rfl,rfl,by omega,λb hb=>az (λBI=>ak (by omega) (b9 o ?_)) λv7=>⟨o,y.2.1,rfl,rfl,by omega,gT (λAK=> ?_) λAK=> ?_⟩⟩
  ·unfold S5;rw[zaq (.inl (by simpa using hr))]
  ·unfold S5;rw[zaq (.inr (by rw[<-hb];exact BI))]
  ·have bk: ¬(y.2.1=aD\/within o y.2.2.1 y.2.1=true):=λhh=>hh.elim (λe=>by rw[e] at hr;simp at hr) (λe=>by rw[<-hb,v7] at e;cases e);have NW:(eJ o y.2.1).toNat<o.length:=by
    rcases rS (λp:Pl=>p.1==y.2.1) o with⟨k,p,h2,h3,h4⟩| ⟨h2,h3⟩
    ·have hk:k<o.length:=(zae.1 h2).1;have e:eJ o y.2.1=(k:Int):=h4;omega
    have e:eJ o y.2.1= -1:=h2;omega
   have AQ:(eJ o y.2.1).toNat<(o.map eV).length:=by rw[zaa];exact NW
   have hy:=b9 (o.set (eJ o y.2.1).toNat (y.2.1,y.2.2.1,y.2.2.2.1,(o.getD (eJ o y.2.1).toNat s7).2.2.2)) (by unfold S5;rw[zap bk,zaq AK]);rw[iO NW];generalize o.getD (eJ o y.2.1).toNat s7=q at*
   simp only[rpA,pQ,qB,List.map_set,zbi] at hy;refine ak ⟨AK,by omega⟩ (ak AQ (ao (ia _) (ak ⟨AK,by omega⟩ (ak AQ (ao (ia _) (ak (by omega) ?_))))));exact hy
  have bk: ¬(y.2.1=aD\/within o y.2.2.1 y.2.1=true):=λhh=>hh.elim (λe=>by rw[e] at hr;simp at hr) (λe=>by rw[<-hb,v7] at e;cases e);have t1:List.take o.length (o.map eV)++[eV y.2]=(o++[y.2]).map eV:=b7 eV o y.2;refine ao ?_ (ak (by omega) ⟨t,o,y.2,o.length+1,i,((o.length+1:Nat):Int)-1,congrArg (λz=>(⟨96,[(5,.sl 0 0 t.length),(6,.sl 1 0 (o.length+1)),(7,iD i),(10,iD (((o.length+1:Nat):Int)-1))],[(0,⟨0,none,qB false t⟩),(1,⟨0,none,.arr 93 false z⟩)]⟩:S)) t1,⟨by omega,rfl,by omega⟩,λo' fA=>ak (by omega) (b9 o' (by unfold S5;rw[zap bk,zap AK];exact fA))⟩);rw[zad];exact⟨by simp,dh (by omega) (by omega)⟩)
 (by
  rintro t o i ae hi ⟨hm,ho⟩ aW
  (rw[<-qbq];delta fZ Hz tB Zm FU Zb rT Z84 Z83 Z82 Z81 Z80 Z7Z Z85 oW zw Z6 Z5 jA Z8i qh DW Z61 n5 Yw fB fD fC fw fy nc iP Z8j q5 GO BK Zh qw Z8h Zd VO)
  refine oC (by first |omega | (simp only[zaa];omega)) (aW _ (λh=>by cases h) ?_);rw[ho,zag])
 (by rintro s ae ⟨t,rfl,hm,hp⟩;refine⟨t,[],rfl,⟨hm,rfl⟩,?_⟩;rintro x rfl;exact hp _ rfl)
theorem qgW:FD X 29 qeo:=FD.mk (H:=[(52,qek)]) (hk:=[(4,ah (aL 29 4) qen)]) (by kernel_rfl) (.cons qgV .nil) (.cons Y6 .nil) (by
 intro ps R ae hh;obtain⟨a,l,rfl,rfl,hm,hp⟩:=hh
 (rw[<-qit];delta fZ Hz tB jA q5 DX BK Z3 uG rI Z6W zw Z8k gk mq Zq ij fM iw)
 have:=n9 a l;exact⟨a,l,rfl,rfl,hm,λt ht=>⟨t,rfl,by rw[ht];omega,λo ho=>hp o (by rw[ho,ht])⟩⟩)
end
abbrev md3(l:List av)(p o:List Pl)(i:Int):S:=⟨78,[(0,dD l),(1,eC p),(5,.sl 0 0 o.length),(6,iD i)],[(0,⟨0,none,pQ false o⟩)]⟩
abbrev md6(l:List av)(p o:List Pl)(i j:Int):S:=⟨78,[(0,dD l),(1,eC p),(5,.sl 0 0 o.length),(6,iD i),(7,iD j)],[(0,⟨0,none,pQ false o⟩)]⟩
abbrev md9(l:List av)(p o:List Pl)(i j k:Int):S:=⟨78,[(0,dD l),(1,eC p),(5,.sl 0 0 o.length),(6,iD i),(7,iD j),(8,iD k)],[(0,⟨0,none,pQ false o⟩)]⟩
def GY(o:List Pl):Nat×P:=(5,q5 o)
def jB(l:List av)(j:Int)(k:Int):D:=D.nth (D.fU (D.ax (nY l j) 6)) (Zb k)
def Z8q(p:List Pl)(i:Int)(l:List av)(j:Int)(k:Int):List D:=[D.agg [JD p i,JC p i,JB p i,D.int .i64 (D.aj (D.ax (nf p i) 3)),D.int .i64 (D.aj (D.ax (nf p i) 4)),D.int .i64 (D.aj (D.ax (nf p i) 5)),D.str (D.cm (D.ax (nf p i) 6)),D.bool (D.eY (D.ax (jB l j k) 8))]]
def Dv(l:List av)(j:Int)(k:Int):Int:=D.aj (D.ax (jB l j k) 0)
noncomputable def Dw(l:List av)(j:Int)(k:Int):Bool:=cT PR (91:TypeId) (jB l j k)
def Dx(k:Int)(l:List av)(j:Int):Bool:=decide ((0:Int)<=k/\k<(↑(List.length (D.fU (D.ax (nY l j) 6))):Int))
def JM(k:Int)(l:List av)(j:Int):Bool:=decide (k<(↑(List.length (D.fU (D.ax (nY l j) 6))):Int))
theorem qbr(l:List av)(p o:List Pl)(i j k:Int)(ae:PX×S->Prop):(ob (oB j l) (ob (jP l j) (bif JM k l j then ob (oB j l) (ob (jP l j) (ob (Dx k l j) (ob (Dw l j k) (bif Dv l j k==(0:Int) then ob (oB j l) (ob (jP l j) (ob (Dx k l j) (ob (Dw l j k) (ob (BE i p) (ob (oV p i) (bif D.aj (D.ax (jB l j k) 1)==D.aj (D.ax (nf p i) 0)&&(D.aj (D.ax (jB l j k) 2)==D.aj (D.ax (nf p i) 1)&&true)&&(D.aj (D.ax (jB l j k) 3)==D.aj (D.ax (nf p i) 2)&&true) then ob (BE i p) (ob (oV p i) (ob (oB j l) (ob (jP l j) (ob (Dx k l j) (ob (Dw l j k) (ob (Nat.ble (jA o) (qh o)&&aJ (jA o+List.length (Z8q p i l j k)) 72) (ob (Zd k) (ae (PX.normal,S.mk 78 (dB l::oS p::(5,P.sl 0 0 (jA o+List.length (Z8q p i l j k)))::ei i::oW j::sc k) [(0,En.mk 0 none (Obj.arr (93:TypeId) false (List.take (jA o) (fZ o)++Z8q p i l j k)))]))))))))) else ob (Zd k) (ae (PX.normal,S.mk 78 (dB l::oS p::GY o::ei i::oW j::sc k) (tB o))))))))) else ob (Zd k) (ae (PX.normal,S.mk 78 (dB l::oS p::GY o::ei i::oW j::sc k) (tB o))))))) else ae (PX.exit 4,S.mk 78 [dB l,oS p,GY o,ei i,oW j] (tB o)))))=(aC [] [] 28 9 (md9 l p o i j k)) ae:=by kernel_rfl
def qep:S->K (PX×S):=λs ae=> ∃(l:List av) (p o:List Pl) (i j:Int) (hi:i.toNat<p.length) (hj:j.toNat<l.length),s=md9 l p o i j 0/\((0<=i/\0<=j/\p.length<=1000)/\l.length<=1000000/\o.length<=1000/\l[j.toNat].ops.length<=200)/\ ∀o',o'=o++mdG p[i.toNat] l[j.toNat]->ae (.exit 4,md6 l p o' i j)
theorem qbs(l:List av)(p o:List Pl)(i j:Int)(ae:PX×S->Prop):(bif yM j l then∃(ar:List av) (lr:List Pl) (aZ:List Pl) (aX:Int) (j_1:Int) (hi:Int.toNat aX<List.length lr) (hj:Int.toNat j_1<List.length ar),S.mk 78 (dB l::oS p::GY o::ei i::oW j::yT) (tB o)=S.mk 78 (dB ar::oS lr::GY aZ::ei aX::oW j_1::yT) (tB aZ)/\(((0:Int)<=aX/\(0:Int)<=j_1/\DY lr)/\oR ar/\DY aZ/\List.length (av.ops ar[Int.toNat j_1])<=200)/\ ∀(o':List Pl),o'=aZ++mdG lr[Int.toNat aX] ar[Int.toNat j_1]->ob (Zd j_1) (ae (PX.normal,S.mk 78 (dB ar::oS lr::GY o'::ei aX::qw j_1) (tB o'))) else ae (PX.exit 2,S.mk 78 (dB l::oS p::GY o::BH i) (tB o)))=(aC [] [(9,ah (aL 28 9) qep)] 28 6 (md6 l p o i j)) ae:=by kernel_rfl
def qeq:S->K (PX×S):=λs ae=> ∃(l:List av) (p o:List Pl) (i:Int) (hi:i.toNat<p.length),s=md6 l p o i 0/\((0<=i/\p.length<=1000)/\l.length<=1000000/\o.length<=999/\(∀g∈l,dC g=true)/\(l.map (·.s)).Nodup)/\ ∀o',o'=o++D0 l p[i.toNat]->ae (.exit 2,md3 l p o' i)
def Z8s(ar:List av):Prop:=(∀(g:av),g∈ar->dC g=true)/\List.Nodup (List.map (λ(x:av)=>av.s x) ar)
theorem qbt(l:List av)(p o:List Pl)(i:Int)(ae:PX×S->Prop):(bif Lk i p then∃(ar:List av) (lr:List Pl) (aZ:List Pl) (aX:Int) (hi:Int.toNat aX<List.length lr),S.mk 78 (dB l::oS p::GY o::ei i::uG) (tB o)=S.mk 78 (dB ar::oS lr::GY aZ::ei aX::uG) (tB aZ)/\(((0:Int)<=aX/\DY lr)/\oR ar/\jA aZ<=999/\Z8s ar)/\ ∀(o':List Pl),o'=aZ++D0 ar lr[Int.toNat aX]->ob (Zd aX) (ae (PX.normal,S.mk 78 (dB ar::oS lr::GY o'::Zt aX) (tB o'))) else ae (PX.exit 0,S.mk 78 [GY o] (tB o)))=(aC [] [(6,ah (aL 28 6) qeq)] 28 3 (md3 l p o i)) ae:=by kernel_rfl
def qer:S->K (PX×S):=λs ae=> ∃(l:List av) (p:List Pl),s=md3 l p [] 0/\(p.length<=1000/\l.length<=1000000/\(∀g∈l,dC g=true)/\(l.map (·.s)).Nodup)/\ ∀o,o=HF l p->ae (.exit 0,⟨78,[(5,.sl 0 0 o.length)],[(0,⟨0,none,pQ false o⟩)]⟩)
def Z8t(ar:List av)(lr:List Pl):S:=S.mk 78 (dB ar::oS lr::Tk) [(0,DX)]
theorem qiv(l:List av)(p:List Pl)(ae:P×List (Nat×En)->Prop):(∃(ar:List av) (lr:List Pl),Z8t l p=Z8t ar lr/\(DY lr/\oR ar/\Z8s ar)/\ ∀(o:List Pl),o=HF ar lr->ae (q5 o,tB o))=(aK [] [(3,ah (aL 28 3) qer)] 28 [dD l,eC p] []) ae:=by kernel_rfl
def TR:bh:=λps R ae=> ∃l p,ps=[dD l,eC p]/\R=[]/\(p.length<=1000/\l.length<=1000000/\(∀g∈l,dC g=true)/\(l.map (·.s)).Nodup)/\ ∀o,o=HF l p->ae (.sl 0 0 o.length,[(0,⟨0,none,pQ false o⟩)])
abbrev ofR(m:List av)(o:List aO)(nh nl:Nat)(A P H L:List D):List (Nat×En):=[(0,⟨0,none,Ae true m⟩),(1,⟨0,none,.box 45 [.sl 2 0 0,.sl 3 0 0,.sl 4 0 0,.sl 5 0 0,.sl 6 0 0]⟩),(2,⟨0,none,Ag false []⟩),(3,⟨0,none,pQ false []⟩),(4,⟨0,none,qgH false []⟩),(5,⟨0,none,qgH false []⟩),(6,⟨0,none,.arr 52 false []⟩),(7,⟨0,none,.box 45 [.sl 8 0 o.length,.sl 9 0 0,.sl 10 0 nh,.sl 11 0 nl,.sl 12 0 0]⟩),(8,⟨0,none,Ag false o⟩),(9,⟨0,none,pQ false []⟩),(10,⟨0,none,.arr 95 false H⟩),(11,⟨0,none,.arr 95 false L⟩),(12,⟨0,none,.arr 52 false []⟩),(13,⟨0,none,.arr 50 false A⟩),(14,⟨0,none,.arr 93 false P⟩)]
abbrev of7(m:List av)(o:List aO)(na np nh nl:Nat)(A P H L:List D)(i:Int):S:=⟨140,[(0,.sl 0 0 m.length),(2,.ref 1 0 0),(3,.ref 7 0 0),(4,.sl 13 0 na),(5,.sl 14 0 np),(6,iD i)],ofR m o nh nl A P H L⟩
abbrev TS(m:List av)(o:List aO)(na np nh nl:Nat)(A P H L:List D)(i:Int)(on:Bool)(k:Int):S:=⟨140,[(0,.sl 0 0 m.length),(2,.ref 1 0 0),(3,.ref 7 0 0),(4,.sl 13 0 na),(5,.sl 14 0 np),(6,iD i),(7,.d (.bool on)),(8,iD k)],ofR m o nh nl A P H L⟩
abbrev qes(m:List av)(o:List aO)(y:bs)(na np nh nl:Nat)(A P H L:List D)(i:Int)(on:Bool)(k j:Int):S:=⟨140,[(0,.sl 0 0 m.length),(2,.ref 1 0 0),(3,.ref 7 0 0),(4,.sl 13 0 na),(5,.sl 14 0 np),(6,iD i),(7,.d (.bool on)),(8,iD k),(9,.ref 15 0 0),(10,iD j)],ofR m o nh nl A P H L++[(15,⟨0,none,qis y⟩)]⟩
def TT(P:List D):Nat×En:=(14,En.mk 0 none (Obj.arr (93:TypeId) false P))
def TU(A:List D):Nat×En:=(13,En.mk 0 none (Obj.arr (50:TypeId) false A))
def Lz:Nat×En:=(12,OL)
def LA(L:List D):Nat×En:=(11,En.mk 0 none (Obj.arr (95:TypeId) false L))
def LB(H:List D):Nat×En:=(10,En.mk 0 none (Obj.arr (95:TypeId) false H))
def D1:Nat×En:=(9,DX)
def D2(o:List aO):Nat×En:=(8,HI o)
def TV:List P:=[P.sl 12 0 0]
def TX:P:=P.sl 9 0 0
def NX(o:List aO)(nh:Nat)(nl:Nat):Nat×En:=(7,En.mk 0 none (Obj.box (45:TypeId) (P.sl 8 0 (jO o)::TX::P.sl 10 0 nh::P.sl 11 0 nl::TV)))
def D3:Nat×En:=(6,OL)
def TY:En:=En.mk 0 none (Obj.arr (95:TypeId) false [])
def D4:Nat×En:=(5,TY)
def D5:Nat×En:=(4,TY)
def D6:Nat×En:=(3,DX)
def D7:Nat×En:=(2,NR)
def D8:Nat×En:=(1,En.mk 0 none (Obj.box (45:TypeId) [P.sl 2 0 0,P.sl 3 0 0,P.sl 4 0 0,P.sl 5 0 0,P.sl 6 0 0]))
def D9(m:List av):Nat×En:=(0,En.mk 0 none (Obj.arr (89:TypeId) true (List.map cu m)))
def JN(m:List av)(o:List aO)(nh:Nat)(nl:Nat)(H:List D)(L:List D)(A:List D)(P:List D):List (Nat×En):=[D9 m,D8,D7,D6,D5,D4,D3,NX o nh nl,D2 o,D1,LB H,LA L,Lz,TU A,TT P]
def Z8Q(A:List D)(P:List D)(y:bs):List (Nat×En):=[Lz,TU A,TT P,(15,En.mk 0 none (Obj.box (91:TypeId) [Pi.P.d (D.int .i64 (bs.kind y)),Pi.P.d (Oz y),Pi.P.d (Oy y),Pi.P.d (Ox y),Pi.P.d (Se y),Pi.P.d (Sd y),Pi.P.d (Sc y),Pi.P.d (D.str (bs.name y)),Pi.P.d (D.bool (bs.dir y)),Pi.P.d (D.sl 2 (List.map eD (bs.db y))),Pi.P.d (Sb y),Pi.P.d (R9 y),Pi.P.d (R8 y),Pi.P.d (D.int .i64 (Prod.fst (bs.elem y))),Pi.P.d (D.int .i64 (Np y)),Pi.P.d (D.int .i64 (Nn y)),Pi.P.d (D.str (bs.text y)),Pi.P.d (D.sl 3 (List.map cb (bs.elems y)))]))]
def Ea(np:Nat):Nat×P:=(5,P.sl 14 0 np)
def Eb(na:Nat):Nat×P:=(4,P.sl 13 0 na)
def Aj:Nat×P:=(3,P.ref 7 0 0)
def Ak:Nat×P:=(2,tN)
def Z8u(y:bs)(j:Int):D:=D.nth (List.map eD (bs.db y)) (Zb j)
def Z8v(y:bs)(j:Int):List D:=[D.agg [Oz y,Oy y,Ox y,D.int .i64 (D.aj (D.ax (Z8u y j) 0)),D.int .i64 (D.aj (D.ax (Z8u y j) 1))]]
theorem T0(m:List av)(o:List aO)(y:bs)(na np nh nl:Nat)(A P H L:List D)(i:Int)(on:Bool)(k j:Int)(ae:PX×S->Prop):(bif decide (j<Z3L y) then bif on then ob (decide ((0:Int)<=j/\j<Z3L y)) (ob (cT PR (48:TypeId) (Z8u y j)) (ob (Nat.ble nl (List.length L)&&aJ (nl+List.length (Z8v y j)) 40) (ob (Zd j) (ae (PX.normal,S.mk 140 [tQ m,Ak,Aj,Eb na,Ea np,ei i,wv on,qA k,(9,Pi.P.ref 15 0 0),(10,Pi.P.d (Zh j))] (D9 m::D8::D7::D6::D5::D4::D3::(7,En.mk 0 none (Obj.box (45:TypeId) (Pi.P.sl 8 0 (jO o)::TX::Pi.P.sl 10 0 nh::Pi.P.sl 11 0 (nl+List.length (Z8v y j))::TV)))::D2 o::D1::LB H::(11,En.mk 0 none (Obj.arr (95:TypeId) false (List.take nl L++Z8v y j)))::Z8Q A P y)))))) else ae (PX.exit 4,S.mk 140 (tQ m::Ak::Aj::Eb na::Ea np::ei i::wv on::HG k) (JN m o nh nl H L A P)) else ae (PX.exit 4,S.mk 140 (tQ m::Ak::Aj::Eb na::Ea np::ei i::wv on::HG k) (JN m o nh nl H L A P)))=(aC [] [] 11 20 (qes m o y na np nh nl A P H L i on k j)) ae:=by kernel_rfl
def T1:S->K (PX×S):=λs ae=> ∃m o y na np nh nl A P H L i on k,s=qes m o y na np nh nl A P H L i on k 0/\(y.db.length<=200/\nl=L.length/\nl<=100000000000)/\ ∀ju L',BJ on y nl L ju L'->ae (.exit 4,TS m o na np nh ju A P H L' i on k)
def Z8W(m:List av)(i:Int)(k:Int):D:=D.int .i64 (D.aj (D.ax (jB m i k) 3))
def Z8V(m:List av)(i:Int)(k:Int):D:=D.int .i64 (D.aj (D.ax (jB m i k) 2))
def Z8U(m:List av)(i:Int)(k:Int):D:=D.int .i64 (D.aj (D.ax (jB m i k) 1))
def Z94(m:List av)(i:Int)(k:Int):List (Nat×En):=[(15,En.mk 0 none (Obj.box (91:TypeId) [P.d (D.int .i64 (Dv m i k)),P.d (Z8U m i k),P.d (Z8V m i k),P.d (Z8W m i k),P.d (D.int .i64 (D.aj (D.ax (jB m i k) 4))),P.d (D.int .i64 (D.aj (D.ax (jB m i k) 5))),P.d (D.int .i64 (D.aj (D.ax (jB m i k) 6))),P.d (D.str (D.cm (D.ax (jB m i k) 7))),P.d (D.bool (D.eY (D.ax (jB m i k) 8))),P.d (D.sl 2 (D.fU (D.ax (jB m i k) 9))),P.d (D.int .i64 (D.aj (D.ax (jB m i k) 10))),P.d (D.int .i64 (D.aj (D.ax (jB m i k) 11))),P.d (D.int .i64 (D.aj (D.ax (jB m i k) 12))),P.d (D.int .i64 (D.aj (D.ax (jB m i k) 13))),P.d (D.int .i64 (D.aj (D.ax (jB m i k) 14))),P.d (D.int .i64 (D.aj (D.ax (jB m i k) 15))),P.d (D.str (D.cm (D.ax (jB m i k) 16))),P.d (D.sl 3 (D.fU (D.ax (jB m i k) 17)))]))]
def Z8Z(aX:Int)(c7:Bool)(gS:Int):List (Nat×P):=[ei aX,wv c7,qA gS,(9,P.ref 15 0 0),(10,P.d Z3)]
def Z90(dV:List av)(uQ:Nat)(uR:Nat)(aX:Int)(c7:Bool)(gS:Int):List (Nat×P):=tQ dV::Ak::Aj::Eb uQ::Ea uR::Z8Z aX c7 gS
def Z98(m:List av)(na:Nat)(np:Nat)(i:Int)(on:Bool)(k:Int)(o:List aO)(nh:Nat)(nl:Nat)(H:List D)(L:List D)(A:List D)(P:List D)(ae:PX×S->Prop):Prop:= ∃(dV:List av) (aZ:List aO) (y:bs) (uQ:Nat) (uR:Nat) (yW:Nat) (pR:Nat) (T2:List D) (T3:List D) (T4:List D) (LC:List D) (aX:Int) (c7:Bool) (gS:Int),S.mk 140 (Z90 m na np i on k) (D9 m::D8::D7::D6::D5::D4::D3::NX o nh nl::D2 o::D1::LB H::LA L::Lz::TU A::TT P::Z94 m i k)=S.mk 140 (Z90 dV uQ uR aX c7 gS) (D9 dV::D8::D7::D6::D5::D4::D3::NX aZ yW pR::D2 aZ::D1::LB T4::LA LC::Z8Q T2 T3 y)/\(List.length (bs.db y)<=200/\pR=List.length LC/\pR<=100000000000)/\ ∀(ju:Nat) (L':List D),BJ c7 y pR LC ju L'->ob (Zd gS) (ae (PX.normal,S.mk 140 (tQ dV::Ak::Aj::Eb uQ::Ea uR::ei aX::wv c7::sc gS) (JN dV aZ yW ju T4 L' T2 T3)))
def Z8Y(m:List av)(i:Int)(k:Int):List D:=[D.agg [Z8U m i k,Z8V m i k,Z8W m i k,Dj m i,Bw m i]]
def Z93(o:List aO)(nh:Nat)(m:List av)(i:Int)(k:Int)(nl:Nat):Nat×En:=(7,En.mk 0 none (Obj.box (45:TypeId) (P.sl 8 0 (jO o)::TX::P.sl 10 0 (nh+List.length (Z8Y m i k))::P.sl 11 0 nl::TV)))
def Z91(ae:PX×S->Prop):S->Prop:=λ(s0:S)=> ∃(dV:List av) (aZ:List aO) (y:bs) (uQ:Nat) (uR:Nat) (yW:Nat) (pR:Nat) (T2:List D) (T3:List D) (T4:List D) (LC:List D) (aX:Int) (c7:Bool) (gS:Int),s0=S.mk 140 (Z90 dV uQ uR aX c7 gS) (D9 dV::D8::D7::D6::D5::D4::D3::NX aZ yW pR::D2 aZ::D1::LB T4::LA LC::Z8Q T2 T3 y)/\(List.length (bs.db y)<=200/\pR=List.length LC/\pR<=100000000000)/\ ∀(ju:Nat) (L':List D),BJ c7 y pR LC ju L'->ob (Zd gS) (ae (PX.normal,S.mk 140 (tQ dV::Ak::Aj::Eb uQ::Ea uR::ei aX::wv c7::sc gS) (JN dV aZ yW ju T4 L' T2 T3)))
noncomputable def Z99(on:Bool)(m:List av)(i:Int)(k:Int)(nh:Nat)(H:List D)(na:Nat)(np:Nat)(o:List aO)(nl:Nat)(L:List D)(A:List D)(P:List D)(ae:PX×S->Prop):Prop:=bif on then bif Dv m i k !=(2:Int) then ob (Nx i m) (ob (Nw i m) (ob (jP m i) (ob (Nat.ble nh (List.length H)&&aJ (nh+List.length (Z8Y m i k)) 40) (Z91 ae (S.mk 140 (Z90 m na np i on k) (D9 m::D8::D7::D6::D5::D4::D3::Z93 o nh m i k nl::D2 o::D1::(10,En.mk 0 none (Obj.arr (95:TypeId) false (List.take nh H++Z8Y m i k)))::LA L::Lz::TU A::TT P::Z94 m i k)))))) else Z98 m na np i on k o nh nl H L A P ae else Z98 m na np i on k o nh nl H L A P ae
def Z8X(m:List av)(i:Int)(k:Int):List D:=[D.agg [Z8U m i k,Z8V m i k,Z8W m i k,D.int .i64 (D.aj (D.ax (jB m i k) 4)),D.int .i64 (D.aj (D.ax (jB m i k) 5)),D.int .i64 (D.aj (D.ax (jB m i k) 6)),D.str (D.cm (D.ax (jB m i k) 7)),D.bool (D.eY (D.ax (jB m i k) 8))]]
def Z95(L:List D)(na:Nat)(A:List D)(m:List av)(i:Int)(k:Int)(np:Nat)(P:List D):List (Nat×En):=LA L::Lz::(13,En.mk 0 none (Obj.arr (50:TypeId) false (List.take na A++[D.agg (Dj m i::Bw m i::Zx k)])))::(14,En.mk 0 none (Obj.arr (93:TypeId) false (List.take np P++Z8X m i k)))::Z94 m i k
def Z92(m:List av)(na:Nat)(i:Int)(k:Int)(np:Nat)(on:Bool):List (Nat×P):=tQ m::Ak::Aj::(4,P.sl 13 0 (na+List.length [D.agg (Dj m i::Bw m i::Zx k)]))::(5,P.sl 14 0 (np+List.length (Z8X m i k)))::Z8Z i on k
def Z96(m:List av)(na:Nat)(i:Int)(k:Int)(np:Nat)(on:Bool)(o:List aO)(nh:Nat)(nl:Nat)(H:List D)(L:List D)(A:List D)(P:List D)(ae:PX×S->Prop):Prop:= ∃(dV:List av) (aZ:List aO) (y:bs) (uQ:Nat) (uR:Nat) (yW:Nat) (pR:Nat) (T2:List D) (T3:List D) (T4:List D) (LC:List D) (aX:Int) (c7:Bool) (gS:Int),S.mk 140 (Z92 m na i k np on) (D9 m::D8::D7::D6::D5::D4::D3::NX o nh nl::D2 o::D1::LB H::Z95 L na A m i k np P)=S.mk 140 (Z90 dV uQ uR aX c7 gS) (D9 dV::D8::D7::D6::D5::D4::D3::NX aZ yW pR::D2 aZ::D1::LB T4::LA LC::Z8Q T2 T3 y)/\(List.length (bs.db y)<=200/\pR=List.length LC/\pR<=100000000000)/\ ∀(ju:Nat) (L':List D),BJ c7 y pR LC ju L'->ob (Zd gS) (ae (PX.normal,S.mk 140 (tQ dV::Ak::Aj::Eb uQ::Ea uR::ei aX::wv c7::sc gS) (JN dV aZ yW ju T4 L' T2 T3)))
noncomputable def Z97(i:Int)(m:List av)(na:Nat)(A:List D)(k:Int)(np:Nat)(P:List D)(on:Bool)(nh:Nat)(H:List D)(o:List aO)(nl:Nat)(L:List D)(ae:PX×S->Prop):Prop:=ob (Nx i m) (ob (Nw i m) (ob (jP m i) (ob (Nat.ble na (List.length A)&&aJ (na+List.length [D.agg (Dj m i::Bw m i::Zx k)]) 24) (ob (Nat.ble np (List.length P)&&aJ (np+List.length (Z8X m i k)) 72) (bif on then bif Dv m i k !=(2:Int) then ob (Nx i m) (ob (Nw i m) (ob (jP m i) (ob (Nat.ble nh (List.length H)&&aJ (nh+List.length (Z8Y m i k)) 40) (Z91 ae (S.mk 140 (Z92 m na i k np on) (D9 m::D8::D7::D6::D5::D4::D3::Z93 o nh m i k nl::D2 o::D1::(10,En.mk 0 none (Obj.arr (95:TypeId) false (List.take nh H++Z8Y m i k)))::Z95 L na A m i k np P)))))) else Z96 m na i k np on o nh nl H L A P ae else Z96 m na i k np on o nh nl H L A P ae)))))
theorem T5(m:List av)(o:List aO)(na np nh nl:Nat)(A P H L:List D)(i:Int)(on:Bool)(k:Int)(ae:PX×S->Prop):(ob (Nx i m) (ob (Nw i m) (ob (jP m i) (bif JM k m i then ob (Nx i m) (ob (Nw i m) (ob (jP m i) (ob (Dx k m i) (ob (Dw m i k) (bif Dv m i k==(0:Int) then Z97 i m na A k np P on nh H o nl L ae else bif Dv m i k==(1:Int) then bif on then Z97 i m na A k np P on nh H o nl L ae else Z99 on m i k nh H na np o nl L A P ae else Z99 on m i k nh H na np o nl L A P ae))))) else ae (PX.exit 2,S.mk 140 (tQ m::Ak::Aj::Eb na::Ea np::BH i) (JN m o nh nl H L A P))))))=(aC [] [(20,ah (aL 11 20) T1)] 11 11 (TS m o na np nh nl A P H L i on k)) ae:=by kernel_rfl
def T6:S->K (PX×S):=λs ae=> ∃(m:List av) (o:List aO) (na np nh nl:Nat) (A P H L:List D) (i:Int) (on:Bool) (t:Tl) (N:Nat) (hi:i.toNat<m.length),s=TS m o na np nh nl A P H L i on 0/\(HJ t na np nh nl A P H L/\zo N t/\N<=300000000/\(0<=i/\m[i.toNat].ops.length<=200/\ ∀y∈m[i.toNat].ops,y.db.length<=200))/\
 ∀OM ON OO ju A' P' H' L',HJ (OE on m[i.toNat].s m[i.toNat].ops t) OM ON OO ju A' P' H' L'->ae (.exit 2,of7 m o OM ON OO ju A' P' H' L' i)
def OP(b:Bool)(l:List aO)(x:aO):Prop:=b=decide (x∈l)
theorem qbu(m:List av)(o:List aO)(na np nh nl:Nat)(A P H L:List D)(i:Int)(ae:PX×S->Prop):(bif decide (i<tR m) then ob (Nx i m) (ob (Nw i m) (ob (jP m i) (∃(l:List aO) (x:aO),zt o::Ye m i=zt l::r9 x/\JI o=JI l/\vZ l/\ ∀(b:Bool),OP b l x-> ∃(dV:List av) (aZ:List aO) (uQ:Nat) (uR:Nat) (yW:Nat) (pR:Nat) (T2:List D) (T3:List D) (T4:List D) (LC:List D) (aX:Int) (on:Bool) (t:Tl) (N:Nat) (hi:Int.toNat aX<List.length dV),S.mk 140 (tQ m::Ak::Aj::Eb na::Ea np::ei i::wv b::yT) [D9 m,D8,D7,D6,D5,D4,D3,NX o nh nl,D2 l,D1,LB H,LA L,Lz,TU A,TT P]=S.mk 140 (tQ dV::Ak::Aj::Eb uQ::Ea uR::ei aX::wv on::yT) (JN dV aZ yW pR T4 LC T2 T3)/\(HJ t uQ uR yW pR T2 T3 T4 LC/\zo N t/\N<=300000000/\(0:Int)<=aX/\List.length (av.ops dV[Int.toNat aX])<=200/\ ∀(y:bs),y∈av.ops dV[Int.toNat aX]->List.length (bs.db y)<=200)/\ ∀(OM ON OO ju:Nat) (A' P' H' L':List D),HJ (OE on (av.s dV[Int.toNat aX]) (av.ops dV[Int.toNat aX]) t) OM ON OO ju A' P' H' L'->ob (Zd aX) (ae (PX.normal,S.mk 140 (tQ dV::Ak::Aj::Eb OM::Ea ON::Zt aX) (JN dV aZ OO ju H' L' A' P')))))) else ae (PX.exit 0,S.mk 140 [tQ m,Ak,Aj,Eb na,Ea np] (JN m o nh nl H L A P)))=(aC [(27,GR)] [(11,ah (aL 11 11) T6)] 11 7 (of7 m o na np nh nl A P H L i)) ae:=by kernel_rfl
abbrev OfB:=Nat×Nat×Nat×Nat×List D×List D×List D×List D
structure OfP where
 m:List av
 o:List aO
 y:bs
 na:Nat
 np:Nat
 nh:Nat
 A:List D
 P:List D
 H:List D
 i:Int
 on:Bool
 k:Int
 L:List D
structure OfQ where
 m:List av
 o:List aO
 g:av
 i:Int
 on:Bool
 t:Tl
 N:Nat
theorem T7{x:Pl}{g:av}{k:Nat}(h:k<g.ops.length):(g.ops.take (k+1)).flatMap (Ai x)=(g.ops.take k).flatMap (Ai x)++Ai x g.ops[k]:=by rw[zaf h,zbu];simp
theorem T8{x:Pl}{l:List av}{j:Nat}(h:j<l.length):D0 (l.take (j+1)) x=D0 (l.take j) x++mdG x l[j]:=by unfold D0;rw[zaf h,zbu];simp
theorem T9{l:List av}{p:List Pl}{i:Nat}(h:i<p.length):HF l (p.take (i+1))=HF l (p.take i)++D0 l p[i]:=by unfold HF;rw[zaf h,zbu];simp
theorem LF(x:Pl): ∀l:List bs,(l.flatMap (Ai x)).length<=l.length
 | []=>by simp
 |a::r=>by have h1:=LF x r;have h2:=Lu x a;rw[zbB,zaj,zam];omega
section
variable{X:XF}
theorem Y7:LD X 28 9 (ah (aL 28 9) qep):=LD.idx (H:=[]) (hk:=[]) (by kernel_rfl) (by kernel_rfl) .nil .nil
 (A:=List av×List Pl×List Pl×Int×Int×Pl×av) (B:=List Pl) (λa o k=>md9 a.1 a.2.1 o a.2.2.2.1 a.2.2.2.2.1 k) (λa=>a.2.2.2.2.2.2.ops.length)
 (λa k o=>((0<=a.2.2.2.1/\a.2.2.2.1<a.2.1.length/\0<=a.2.2.2.2.1/\a.2.2.2.2.1<a.1.length)/\D.nth (a.2.1.map eV) a.2.2.2.1.toNat=eV a.2.2.2.2.2.1/\D.nth (a.1.map cu) a.2.2.2.2.1.toNat=cu a.2.2.2.2.2.2/\a.2.2.1.length<=1000/\a.2.2.2.2.2.2.ops.length<=200)/\o=a.2.2.1++(a.2.2.2.2.2.2.ops.take k).flatMap (Ai a.2.2.2.2.2.1))
 (λa z=>z=(.exit 4,md6 a.1 a.2.1 (a.2.2.1++mdG a.2.2.2.2.2.1 a.2.2.2.2.2.2) a.2.2.2.1 a.2.2.2.2.1))
 (by
  rintro⟨l,p,o0,i,j,x,g⟩ o k ae h0 r4 dy ⟨⟨hb,hx,hg,nb,Al⟩,ho⟩ hn aW;dsimp only at*
  (rw[<-qbr];delta fZ Hz tB jA q5 GY Zh sc Zm oW ei ij oS fa dB Z6 Z5 Zd Zb nY jB nf JB JC JD Z8q qh oV BE Dv Dw Dx JM jP kz oB)
  rw[hx,hg];have u6:D.fU (D.ax (cu g) 6)=g.ops.map fY:=rfl;have e1:D.nth (g.ops.map fY) k.toNat=fY g.ops[k.toNat]:=aG _ _ _ dy;have lC:=T7 (x:=x) dy;have hlen:=LF x (g.ops.take k.toNat);rw[zat] at hlen;have qi2:o.length<=1200:=by rw[ho,zaj];omega
  rw[u6,e1];generalize g.ops[k.toNat]=y at*
  have u0:D.aj (D.ax (fY y) 0)=y.kind:=rfl;have v:(D.aj (D.ax (fY y) 1)==D.aj (D.ax (eV x) 0)&&(D.aj (D.ax (fY y) 2)==D.aj (D.ax (eV x) 1)&&true)&&(D.aj (D.ax (fY y) 3)==D.aj (D.ax (eV x) 2)&&true))=(y.node==x.1):=RW y.node x.1;have Qt:0<=j/\j<((l.map cu).length:Int):=by rw[zaa];exact⟨hb.2.2.1,hb.2.2.2⟩
  have eH:0<=i/\i<((p.map eV).length:Int):=by rw[zaa];exact⟨hb.1,hb.2.1⟩
  have Ec:0<=k/\k<((g.ops.map fY).length:Int):=by rw[zaa];exact⟨h0,r4⟩
  have ot:=mT g;have Hj:=ia x;have tM:=Nk y;rw[u0,v];refine ak Qt (ao ot (bV Ec.2 (ak Qt (ao ot (ak Ec (ao tM ?_))))));have bk: ¬(y.kind=0/\y.node=x.1)->o0++(g.ops.take (k.toNat+1)).flatMap (Ai x)=o:=λh=>by
   rw[lC,ho];have:Ai x y=[]:=by unfold Ai;rw[zap h]
   rw[this,zbl]
  refine az (λhk=>ak Qt (ao ot (ak Ec (ao tM (ak eH (ao Hj (az (λz6=> ?_) λz6=>ak (by omega) (hn o ⟨⟨hb,hx,hg,nb,Al⟩,(bk (λhh=>by rw[hh.2] at z6;simp at z6)).symm⟩)))))))) λhk=>ak (by omega) (hn o ⟨⟨hb,hx,hg,nb,Al⟩,(bk (λhh=>by rw[hh.1] at hk;simp at hk)).symm⟩);have bC:o0++(g.ops.take (k.toNat+1)).flatMap (Ai x)=o++[(x.1,x.2.1,x.2.2.1,y.dir)]:=by
   rw[lC,ho,zaF];have:Ai x y=[(x.1,x.2.1,x.2.2.1,y.dir)]:=by unfold Ai;rw[zaq ⟨by simpa using hk,by simpa using z6⟩]
   rw[this]
  have t1:List.take o.length (o.map eV)++[eV (x.1,x.2.1,x.2.2.1,y.dir)]=(o++[(x.1,x.2.1,x.2.2.1,y.dir)]).map eV:=b7 eV o _;have hy:=hn (o++[(x.1,x.2.1,x.2.2.1,y.dir)]) ⟨⟨hb,hx,hg,nb,Al⟩,bC.symm⟩;simp only[md9,pQ,zaj] at hy;rw[<-t1] at hy;refine ak eH (ao Hj (ak Qt (ao ot (ak Ec (ao tM (ao (iy rfl (by rw[zaa]) (by omega) (by decide)) (ak (by omega) ?_)))))));exact hy)
 (by
  rintro⟨l,p,o0,i,j,x,g⟩ o k ae hk ⟨⟨hb,hx,hg,nb,Al⟩,ho⟩ aW;dsimp only at*
  (rw[<-qbr];delta fZ Hz tB jA q5 GY Zh sc Zm oW ei ij oS fa dB Z6 Z5 Zd Zb nY jB nf JB JC JD Z8q qh oV BE Dv Dw Dx JM jP kz oB)
  rw[hx,hg];have u6:D.fU (D.ax (cu g) 6)=g.ops.map fY:=rfl;rw[u6];have Qt:0<=j/\j<((l.map cu).length:Int):=by rw[zaa];exact⟨hb.2.2.1,hb.2.2.2⟩
  refine ak Qt (ao (mT g) (oC (by rw[zaa];omega) (aW _ (λh=>by cases h) ?_)));rw[ho,zag];rfl)
 (by rintro s ae ⟨l,p,o,i,j,hi,hj,rfl,⟨h1,h2,h3,h4⟩,hp⟩;refine⟨(l,p,o,i,j,p[i.toNat],l[j.toNat]),o,rfl,⟨⟨⟨h1.1,by show i<(p.length:Int);omega,h1.2.1,by show j<(l.length:Int);omega⟩,aG _ _ _ hi,aG _ _ _ hj,h3,h4⟩,by simp⟩,?_⟩;rintro z rfl;exact hp _ rfl)
theorem Y8:LD X 28 6 (ah (aL 28 6) qeq):=LD.idx (H:=[]) (hk:=[(9,ah (aL 28 9) qep)]) (by kernel_rfl) (by kernel_rfl) .nil (.cons Y7 .nil)
 (A:=List av×List Pl×List Pl×Int×Pl) (B:=List Pl) (λa o j=>md6 a.1 a.2.1 o a.2.2.2.1 j) (λa=>a.1.length)
 (λa j o=>((0<=a.2.2.2.1/\a.2.1.length<=1000)/\(∃hi:a.2.2.2.1.toNat<a.2.1.length,a.2.1[a.2.2.2.1.toNat]=a.2.2.2.2)/\a.1.length<=1000000/\a.2.2.1.length<=999/\(∀g∈a.1,dC g=true)/\(a.1.map (·.s)).Nodup)/\o=a.2.2.1++D0 (a.1.take j) a.2.2.2.2)
 (λa z=>z=(.exit 2,md3 a.1 a.2.1 (a.2.2.1++D0 a.1 a.2.2.2.2) a.2.2.2.1))
 (by
  rintro⟨l,p,o0,i,x⟩ o j ae h0 Ez NW ⟨⟨h1,⟨hi,hx⟩,h3,h4,h5,h6⟩,ho⟩ hn aW;dsimp only at*
  (rw[<-qbs];delta Zm ei BH Zh qw Z6 Z5 Zd oR jA DY fZ Hz tB Z3 yT oW q5 GY ij oS fa dB kz yM)
  have lC:=T8 (x:=x) NW;have h7:(D0 (l.take j.toNat) x).length<=1:=(Lw x (λg hg=>h5 g (za3 hg)) (h6.sublist ((List.take_sublist _ _).map _))).1;have nb:o.length<=1000:=by rw[ho,zaj];omega
  refine bV (by rw[zaa];exact Ez) ⟨l,p,o,i,j,hi,NW,rfl,⟨⟨h1.1,h0,h1.2⟩,h3,nb,yS (h5 _ (zar NW))⟩,λo' fA=>ak (by omega) (hn o' ⟨⟨h1,⟨hi,hx⟩,h3,h4,h5,h6⟩,?_⟩)⟩;rw[fA,ho,lC,hx,zaF])
 (by
  rintro⟨l,p,o0,i,x⟩ o j ae hj ⟨hc,ho⟩ aW;dsimp only at*
  (rw[<-qbs];delta Zm ei BH Zh qw Z6 Z5 Zd oR jA DY fZ Hz tB Z3 yT oW q5 GY ij oS fa dB kz yM)
  refine oC (by rw[zaa];omega) (aW _ (λh=>by cases h) ?_);rw[ho,zag])
 (by rintro s ae ⟨l,p,o,i,hi,rfl,⟨h1,h2,h3,h4,h5⟩,hp⟩;refine⟨(l,p,o,i,p[i.toNat]),o,rfl,⟨⟨h1,⟨hi,rfl⟩,h2,h3,h4,h5⟩,by simp[D0]⟩,?_⟩;rintro z rfl;exact hp _ rfl)
theorem Y9:LD X 28 3 (ah (aL 28 3) qer):=LD.idx (H:=[]) (hk:=[(6,ah (aL 28 6) qeq)]) (by kernel_rfl) (by kernel_rfl) .nil (.cons Y8 .nil)
 (A:=List av×List Pl) (B:=List Pl) (λa o i=>md3 a.1 a.2 o i) (λa=>a.2.length)
 (λa i o=>(a.2.length<=1000/\a.1.length<=1000000/\(∀g∈a.1,dC g=true)/\(a.1.map (·.s)).Nodup)/\o=HF a.1 (a.2.take i))
 (λa z=>z=(.exit 0,⟨78,[(5,.sl 0 0 (HF a.1 a.2).length)],[(0,⟨0,none,pQ false (HF a.1 a.2)⟩)]⟩))
 (by
  rintro⟨l,p⟩ o i ae h0 cj bK ⟨⟨h1,h2,h3,h4⟩,ho⟩ hn aW;dsimp only at*
  (rw[<-qbt];delta Zh Zt Z6 Z5 Zd Z8s jA oR DY fZ Hz tB Z3 uG Zm ei q5 GY ij oS fa dB qh Lk)
  have lC:=T9 (l:=l) bK;have h7:=qk h3 h4 (p.take i.toNat);rw[zat,<-ho] at h7;refine bV (by rw[zaa];exact cj) ⟨l,p,o,i,bK,rfl,⟨⟨h0,h1⟩,h2,by omega,h3,h4⟩,λo' fA=>ak (by omega) (hn o' ⟨⟨h1,h2,h3,h4⟩,?_⟩)⟩;rw[fA,ho,lC])
 (by
  rintro⟨l,p⟩ o i ae hi ⟨hc,ho⟩ aW;dsimp only at*
  (rw[<-qbt];delta Zh Zt Z6 Z5 Zd Z8s jA oR DY fZ Hz tB Z3 uG Zm ei q5 GY ij oS fa dB qh Lk)
  refine oC (by rw[zaa];omega) (aW _ (λh=>by cases h) ?_);rw[ho,zag])
 (by rintro s ae ⟨l,p,rfl,hc,hp⟩;refine⟨(l,p),[],rfl,⟨hc,by simp[HF]⟩,?_⟩;rintro z rfl;exact hp _ rfl)
theorem qet:FD X 28 TR:=FD.mk (H:=[]) (hk:=[(3,ah (aL 28 3) qer)]) (by kernel_rfl) .nil (.cons Y9 .nil) (by
 intro ps R ae hh;obtain⟨l,p,rfl,rfl,hc,hp⟩:=hh
 (rw[<-qiv];delta fZ Hz tB jA q5 Z8s oR DY DX Z3 DZ ZE Tk ij oS fa dB Z8t)
 exact⟨l,p,rfl,hc,λo ho=>hp o ho⟩)
theorem Ua:LD X 11 20 (ah (aL 11 20) T1):=LD.idx (H:=[]) (hk:=[]) (by kernel_rfl) (by kernel_rfl) .nil .nil
 (A:=OfP) (B:=Nat×List D) (λa b j=>qes a.m a.o a.y a.na a.np a.nh b.1 a.A a.P a.H b.2 a.i a.on a.k j) (λa=>a.y.db.length)
 (λa j b=>(a.y.db.length<=200/\a.L.length<=100000000000)/\b.1=b.2.length/\b.2=a.L++(if a.on=true then(a.y.db.take j).map (λs=>ki (a.y.node,s)) else []))
 (λa x=> ∃ju L',BJ a.on a.y a.L.length a.L ju L'/\x=(.exit 4,TS a.m a.o a.na a.np a.nh ju a.A a.P a.H L' a.i a.on a.k))
 (by
  rintro a ⟨nl,L⟩ j ae h0 Ez NW ⟨⟨hd,hL⟩,zL,hLe⟩ hn ho;dsimp only at*
  (rw[<-T0];delta TT TU OL Lz LA LB DX D1 HI D2 TV TX jO NX D3 TY D4 D5 D6 NR D7 D8 D9 JN Zm qA HG Nn Np R8 R9 Sb Sc Sd Se Ox Oy Oz Z8Q Zh fX wv ei Ea Eb Aj tN Ak vU tQ Z6 Z5 Zd Zb Z8u Z8v Z3L)
  have e1:D.nth (a.y.db.map eD) j.toNat=eD a.y.db[j.toNat]:=aG _ _ _ NW;have lC:(a.y.db.take (j.toNat+1))=a.y.db.take j.toNat++[a.y.db[j.toNat]]:=zaf NW;rw[e1];generalize a.y.db[j.toNat]=z at*
  have hLl:L.length<=a.L.length+200:=by
   rw[hLe,zaj];split
   ·rw[zaa,zat];omega
   simp
  have Qt:j<((a.y.db.map eD).length:Int):=by rw[zaa];exact Ez
  refine bV Qt (az (λyV=>ak ⟨h0,Qt⟩ (ao (uF _) (ao (iy zL rfl (by omega) (by decide)) (ak (by omega) (hn (nl+1,List.take nl L++[ki (a.y.node,z)]) ⟨⟨hd,hL⟩,?_,?_⟩))))) λqiw=>ho _ (λh=>by cases h) ⟨nl,L,⟨zL,?_⟩,rfl⟩)
  ·simp[zL]
  ·rw[yV,zaq rfl] at hLe⊢;rw[lC,zL,zag,hLe,zaG,zaF];rfl
  rw[qiw] at hLe⊢;simpa using hLe)
 (by
  rintro a ⟨nl,L⟩ j ae hj ⟨⟨hd,hL⟩,zL,hLe⟩ ho;dsimp only at*
  (rw[<-T0];delta TT TU OL Lz LA LB DX D1 HI D2 TV TX jO NX D3 TY D4 D5 D6 NR D7 D8 D9 JN Zm qA HG Nn Np R8 R9 Sb Sc Sd Se Ox Oy Oz Z8Q Zh fX wv ei Ea Eb Aj tN Ak vU tQ Z6 Z5 Zd Zb Z8u Z8v Z3L)
  refine oC (by rw[zaa];omega) (ho _ (λh=>by cases h) ⟨nl,L,⟨zL,?_⟩,rfl⟩);rw[hLe,zag];cases a.on
  ·rfl
  simp[Lx,zc2])
 (by rintro s ae ⟨m,o,y,na,np,nh,nl,A,P,H,L,i,on,k,rfl,⟨h1,h2,h3⟩,hp⟩;refine⟨⟨m,o,y,na,np,nh,A,P,H,i,on,k,L⟩,(nl,L),rfl,⟨⟨h1,by rw[<-h2];exact h3⟩,h2,by simp⟩,?_⟩;rintro z ⟨ju,L',hg,rfl⟩;exact hp ju L' ⟨hg.1,hg.2⟩)
theorem Ub:LD X 11 11 (ah (aL 11 11) T6):=LD.idx (H:=[]) (hk:=[(20,ah (aL 11 20) T1)]) (by kernel_rfl) (by kernel_rfl) .nil (.cons Ua .nil)
 (A:=OfQ) (B:=OfB) (λa b k=>TS a.m a.o b.1 b.2.1 b.2.2.1 b.2.2.2.1 b.2.2.2.2.1 b.2.2.2.2.2.1 b.2.2.2.2.2.2.1 b.2.2.2.2.2.2.2 a.i a.on k) (λa=>a.g.ops.length)
 (λa k b=>(zo a.N a.t/\a.N<=300000000/\(0<=a.i/\a.i<a.m.length/\D.nth (a.m.map cu) a.i.toNat=cu a.g)/\a.g.ops.length<=200/\ ∀y∈a.g.ops,y.db.length<=200)/\HJ (OE a.on a.g.s (a.g.ops.take k) a.t) b.1 b.2.1 b.2.2.1 b.2.2.2.1 b.2.2.2.2.1 b.2.2.2.2.2.1 b.2.2.2.2.2.2.1 b.2.2.2.2.2.2.2)
 (λa x=> ∃OM ON OO ju A' P' H' L',HJ (OE a.on a.g.s a.g.ops a.t) OM ON OO ju A' P' H' L'/\x=(.exit 2,of7 a.m a.o OM ON OO ju A' P' H' L' a.i))
 (by
  rintro⟨m,o,g,i,on,t,N⟩ ⟨na,np,nh,nl,A,P,H,L⟩ k ae h0 r4 dy ⟨hc,hR⟩ hn ho;dsimp only at*
  (rw[<-T5];delta TT TU OL Lz LA LB DX D1 HI D2 TV TX jO NX D3 TY D4 D5 D6 NR D7 D8 D9 JN Zm ei BH Ea Eb Aj tN Ak vU tQ Zh sc fX wv Z6 Z5 Zd Nn Np R8 R9 Sb Sc Sd Se Ox Oy Oz Z8Q Zb nY jB Z8W Z8V Z8U Dv Z94 Z3 qA Z8Z Z90 Z98 Bw Dj Z8Y Z93 Z91 jP kz Nw tR Nx Z99 Z8X Zx Z95 Z92 Z96 Z97 Dw Dx JM)
  have uS:=(hc.1.ops (on:=on) (s:=g.s) hc.2.2.2.2 k.toNat (by omega)).mono (m:=300000200) (by have:=hc.2.1;have:=hc.2.2.2.1;omega);rw[hc.2.2.1.2.2];have u6:D.fU (D.ax (cu g) 6)=g.ops.map fY:=rfl;have e1:D.nth (g.ops.map fY) k.toNat=fY g.ops[k.toNat]:=aG _ _ _ dy;have ng:=GG (on:=on) (s:=g.s) (t:=t) dy;have tE:=hc.2.2.2.2 _ (zar dy);have u7:((k.toNat:Nat):Int)=k:=by omega
  rw[u6,e1];generalize g.ops[k.toNat]=y at ng tE⊢;generalize OE on g.s (g.ops.take k.toNat) t=t1 at ng hR uS;have u0:D.aj (D.ax (fY y) 0)=y.kind:=rfl;have tM:=Nk y;have ot:=mT g;have eH:0<=i/\i<(m.length:Int):=⟨hc.2.2.1.1,hc.2.2.1.2.1⟩
  have NK:i.toNat<(m.map cu).length:=by rw[zaa];omega
  have Ec:0<=k/\k<((g.ops.map fY).length:Int):=by rw[zaa];exact⟨h0,r4⟩
  simp only[u0];refine ak eH (ak NK (ao ot (bV Ec.2 (ak eH (ak NK (ao ot (ak Ec (ao tM ?_))))))));by_cases kq:y.kind=0
  ·rw[show(y.kind==0)=true by simp[kq],show(y.kind !=2)=true by simp[kq]];cases on with
   |true=>simp only[zcG];exact ak eH (ak NK (ao ot (ao (iy hR.na (by rw[hR.a,zaa]) (by have:=uS.2.1;omega) (by decide)) (ao (iy hR.np (by rw[hR.p,zaa]) (by have:=uS.1;have:=uS.2.1;omega) (by decide)) (ak eH (ak NK (ao ot (ao (iy hR.nh (by rw[hR.h,zaa]) (by have:=uS.2.2.1;omega) (by decide)) (⟨m,o,y,na+1,np+1,nh+1,nl,List.take na A++[cb (g.s.1,g.s.2,k)],List.take np P++[eV (Dn y)],List.take nh H++[ki (y.node,g.s)],L,i,true,k,rfl,⟨tE,hR.nl.trans (by rw[hR.l,zaa]),by have:=hR.nl;have:=uS.2.2.2;omega⟩,λju L' uf=>ak (by omega) (hn (na+1,np+1,nh+1,ju,List.take na A++[cb (g.s.1,g.s.2,k)],List.take np P++[eV (Dn y)],List.take nh H++[ki (y.node,g.s)],L') ⟨hc,by rw[ng];exact(hR.go u7 uf).1 (by simp[lQ,kq]) (by simp[mU,kq])⟩)⟩)))))))))
   |false=>simp only[zcG];exact ak eH (ak NK (ao ot (ao (iy hR.na (by rw[hR.a,zaa]) (by have:=uS.2.1;omega) (by decide)) (ao (iy hR.np (by rw[hR.p,zaa]) (by have:=uS.1;have:=uS.2.1;omega) (by decide)) (⟨m,o,y,na+1,np+1,nh,nl,List.take na A++[cb (g.s.1,g.s.2,k)],List.take np P++[eV (Dn y)],H,L,i,false,k,rfl,⟨tE,hR.nl.trans (by rw[hR.l,zaa]),by have:=hR.nl;have:=uS.2.2.2;omega⟩,λju L' uf=>ak (by omega) (hn (na+1,np+1,nh,ju,List.take na A++[cb (g.s.1,g.s.2,k)],List.take np P++[eV (Dn y)],H,L') ⟨hc,by rw[ng];exact(hR.go u7 uf).2.1 (by simp[lQ,kq]) (by simp[mU,kq])⟩)⟩)))))
  by_cases gJ:y.kind=1
  ·rw[show(y.kind==0)=false by simp[kq],show(y.kind==1)=true by simp[gJ],show(y.kind !=2)=true by simp[gJ]];cases on with
   |true=>simp only[zcG,zcj];exact ak eH (ak NK (ao ot (ao (iy hR.na (by rw[hR.a,zaa]) (by have:=uS.2.1;omega) (by decide)) (ao (iy hR.np (by rw[hR.p,zaa]) (by have:=uS.1;have:=uS.2.1;omega) (by decide)) (ak eH (ak NK (ao ot (ao (iy hR.nh (by rw[hR.h,zaa]) (by have:=uS.2.2.1;omega) (by decide)) (⟨m,o,y,na+1,np+1,nh+1,nl,List.take na A++[cb (g.s.1,g.s.2,k)],List.take np P++[eV (Dn y)],List.take nh H++[ki (y.node,g.s)],L,i,true,k,rfl,⟨tE,hR.nl.trans (by rw[hR.l,zaa]),by have:=hR.nl;have:=uS.2.2.2;omega⟩,λju L' uf=>ak (by omega) (hn (na+1,np+1,nh+1,ju,List.take na A++[cb (g.s.1,g.s.2,k)],List.take np P++[eV (Dn y)],List.take nh H++[ki (y.node,g.s)],L') ⟨hc,by rw[ng];exact(hR.go u7 uf).1 (by simp[lQ,gJ]) (by simp[mU,gJ])⟩)⟩)))))))))
   |false=>simp only[zcG,zcj];exact⟨m,o,y,na,np,nh,nl,A,P,H,L,i,false,k,rfl,⟨tE,hR.nl.trans (by rw[hR.l,zaa]),by have:=hR.nl;have:=uS.2.2.2;omega⟩,λju L' uf=>ak (by omega) (hn (na,np,nh,ju,A,P,H,L') ⟨hc,by rw[ng];exact(hR.go u7 uf).2.2.2 (by simp[lQ,gJ]) (by simp[mU,gJ])⟩)⟩
  by_cases JO:y.kind=2
  ·rw[show(y.kind==0)=false by simp[kq],show(y.kind==1)=false by simp[gJ],show(y.kind !=2)=false by simp[JO]];cases on with
   |true=>simp only[zcj];exact⟨m,o,y,na,np,nh,nl,A,P,H,L,i,true,k,rfl,⟨tE,hR.nl.trans (by rw[hR.l,zaa]),by have:=hR.nl;have:=uS.2.2.2;omega⟩,λju L' uf=>ak (by omega) (hn (na,np,nh,ju,A,P,H,L') ⟨hc,by rw[ng];exact(hR.go u7 uf).2.2.2 (by simp[lQ,JO]) (by simp[mU,JO])⟩)⟩
   |false=>simp only[zcj];exact⟨m,o,y,na,np,nh,nl,A,P,H,L,i,false,k,rfl,⟨tE,hR.nl.trans (by rw[hR.l,zaa]),by have:=hR.nl;have:=uS.2.2.2;omega⟩,λju L' uf=>ak (by omega) (hn (na,np,nh,ju,A,P,H,L') ⟨hc,by rw[ng];exact(hR.go u7 uf).2.2.2 (by simp[lQ,JO]) (by simp[mU,JO])⟩)⟩
  rw[show(y.kind==0)=false by simp[kq],show(y.kind==1)=false by simp[gJ],show(y.kind !=2)=true by simp[JO]];cases on with
  |true=>simp only[zcj];exact ak eH (ak NK (ao ot (ao (iy hR.nh (by rw[hR.h,zaa]) (by have:=uS.2.2.1;omega) (by decide)) (⟨m,o,y,na,np,nh+1,nl,A,P,List.take nh H++[ki (y.node,g.s)],L,i,true,k,rfl,⟨tE,hR.nl.trans (by rw[hR.l,zaa]),by have:=hR.nl;have:=uS.2.2.2;omega⟩,λju L' uf=>ak (by omega) (hn (na,np,nh+1,ju,A,P,List.take nh H++[ki (y.node,g.s)],L') ⟨hc,by rw[ng];exact(hR.go u7 uf).2.2.1 (by simp[lQ,kq,gJ]) (by simp[mU,JO])⟩)⟩))))
  |false=>simp only[zcj];exact⟨m,o,y,na,np,nh,nl,A,P,H,L,i,false,k,rfl,⟨tE,hR.nl.trans (by rw[hR.l,zaa]),by have:=hR.nl;have:=uS.2.2.2;omega⟩,λju L' uf=>ak (by omega) (hn (na,np,nh,ju,A,P,H,L') ⟨hc,by rw[ng];exact(hR.go u7 uf).2.2.2 (by simp[lQ,kq]) (by simp[mU])⟩)⟩)
 (by
  rintro⟨m,o,g,i,on,t,N⟩ ⟨na,np,nh,nl,A,P,H,L⟩ k ae hk ⟨hc,hR⟩ ho;dsimp only at*
  (rw[<-T5];delta TT TU OL Lz LA LB DX D1 HI D2 TV TX jO NX D3 TY D4 D5 D6 NR D7 D8 D9 JN Zm ei BH Ea Eb Aj tN Ak vU tQ Zh sc fX wv Z6 Z5 Zd Nn Np R8 R9 Sb Sc Sd Se Ox Oy Oz Z8Q Zb nY jB Z8W Z8V Z8U Dv Z94 Z3 qA Z8Z Z90 Z98 Bw Dj Z8Y Z93 Z91 jP kz Nw tR Nx Z99 Z8X Zx Z95 Z92 Z96 Z97 Dw Dx JM)
  rw[hc.2.2.1.2.2];have u6:D.fU (D.ax (cu g) 6)=g.ops.map fY:=rfl;rw[u6];rw[zag] at hR;have eH:0<=i/\i<(m.length:Int):=⟨hc.2.2.1.1,hc.2.2.1.2.1⟩
  have NK:i.toNat<(m.map cu).length:=by rw[zaa];omega
  exact ak eH (ak NK (ao (mT g) (oC (by rw[zaa];omega) (ho _ (λh=>by cases h) ⟨na,np,nh,nl,A,P,H,L,hR,rfl⟩)))))
 (by rintro s ae ⟨m,o,na,np,nh,nl,A,P,H,L,i,on,t,N,hi,rfl,⟨h1,h2,h3,h4⟩,hp⟩;refine⟨⟨m,o,m[i.toNat],i,on,t,N⟩,(na,np,nh,nl,A,P,H,L),rfl,⟨⟨h2,h3,⟨h4.1,by show i<(m.length:Int);omega,aG _ _ _ hi⟩,h4.2.1,h4.2.2⟩,h1⟩,?_⟩;rintro z ⟨OM,ON,OO,ju,A',P',H',L',g1,rfl⟩;exact hp OM ON OO ju A' P' H' L' g1)
end
section
variable{X:XF}
end
theorem LG(l:List av):(dE l).length<=l.length:=by have h1:=Yb ((au l).map Di);have h2:=rP l;rw[zaa] at h1;unfold dE;omega
section
variable{X:XF}{w0:World}(hX:eG PR w0 X.cf)
include hX
end
def qeu:S->K (PX×S):=λs ae=> ∃m o,s=of7 m o 0 0 0 0 [] [] [] [] 0/\(m.length<=1000000/\o.length<=1000000/\ ∀g∈m,dC g=true)/\ ∀na np nh nl A P H L,HJ (gF o m) na np nh nl A P H L->ae (.exit 0,⟨140,[(0,.sl 0 0 m.length),(2,.ref 1 0 0),(3,.ref 7 0 0),(4,.sl 13 0 na),(5,.sl 14 0 np)],ofR m o nh nl A P H L⟩)
def Z9d(aZ:List aO):D:=D.sl 2 (List.take (jO aZ) (List.map eD aZ))
def NY(NZ:List aq):List D:=List.take (gk NZ) (fM NZ)
def N0(NZ:List aq):P:=P.d (D.sl 3 (NY NZ))
def Z9c(dV:List av)(aZ:List aO):S:=S.mk 140 (tQ dV::Ak::Aj::(4,P.sl 13 0 0)::(5,P.sl 14 0 0)::DZ) [D9 dV,D8,D7,D6,D5,D4,D3,(7,En.mk 0 none (Obj.box (45:TypeId) (P.sl 8 0 (jO aZ)::TX::P.sl 10 0 0::P.sl 11 0 0::TV))),D2 aZ,D1,(10,TY),(11,TY),Lz,(13,VL),(14,DX)]
def OQ(dV:List av):P:=P.d (D.sl 7 (List.take (List.length dV) (List.map cu dV)))
def BL(ar:List av):List P:=[fa ar]
theorem qix(l:List av)(ae:P×List (Nat×En)->Prop):(∃(ar:List av),BL l=BL ar/\Zq/\SmL ar/\ ∀(m:List av),m=au ar-> ∃(l:List av),[OQ m]=BL l/\Zq/\oR l/\ ∀(o:List Hd),o=List.map Di l-> ∃(l:List Hd),[P.d (D.sl 4 (OD o))]=[P.d (D.sl 4 (List.map fN l))]/\Zq/\Du l/\ ∀(o:List aO),o=onX l-> ∃(dV:List av) (aZ:List aO),Z9c m o=Z9c dV aZ/\(oR dV/\vZ aZ/\ ∀(g:av),g∈dV->dC g=true)/\ ∀(na np nh nl:Nat) (A P H L:List D),HJ (gF aZ dV) na np nh nl A P H L-> ∃(a:List aq) (l:List Pl),[Pi.P.d (D.sl 3 (List.take na A)),Pi.P.d (D.sl 8 (List.take np P))]=[iw a,ij l]/\Zq/\(mq a/\jA l=gk a)/\ ∀(o:List Pl),o=HE (Ah a l)-> ∃(l:List av) (p:List Pl),[OQ dV,Pi.P.d (D.sl 8 (List.take (jA o) (fZ o)))]=[fa l,ij p]/\Zq/\(DY p/\oR l/\Z8s l)/\ ∀(o:List Pl),o=HF l p-> ∃(h:List aT) (g:List aT),[Pi.P.d (D.sl 5 (List.take nh H)),Pi.P.d (D.sl 5 (List.take nl L))]=[uM h,uM g]/\Zq/\(BG h/\BG g)/\ ∀(NZ:List aq),NZ=Dt h g-> ∃(l:List Pl) (v:List aq),[Pi.P.d (D.sl 8 (List.take (jA o) (fZ o))),N0 NZ]=[ij l,iw v]/\Zq/\(DY l/\mq v)/\ae (Pi.P.d (D.agg [Z9d aZ,D.sl 8 (List.take (jA o) (fZ o)),D.sl 5 (List.take nh H),D.sl 5 (List.take nl L),D.sl 6 (List.take (List.length (bY (ly l) v)) (List.map dW (bY (ly l) v)))]),[]))=(aK [(24,Sr),(26,TB),(25,TI),(29,qeo),(28,TR),(31,Tm),(30,Dr)] [(7,ah (aL 11 7) qeu)] 11 [dD l] []) ae:=by kernel_rfl
def lD(l:List av)(t:Tl):List Pl:=HF l (HE (Ah t.a t.p))
def JP(l:List av)(t:Tl):List It:=bY (ly (lD l t)) (Dt t.h t.g)
def qgX(o:List aO)(p:List Pl)(h g:List aT)(x:List It):P:= .d (.agg [.sl 2 (o.map eD),.sl 8 (p.map eV),.sl 5 (h.map ki),.sl 5 (g.map ki),.sl 6 (x.map dW)])
def SmS(l:List av):Prop:=SmL l/\SmV l
def GZ:bh:=λps R ae=> ∃l,ps=[dD l]/\R=[]/\SmS l/\ ∀o t p x,o=dE l->t=gF o (au l)->p=lD (au l) t->x=JP (au l) t->ae (qgX o p t.h t.g x,[])
def OnR(f:D->Option D)(o:List aO):Prop:= ∀s:aO,f (eD s)=if s∈o then some (.agg []) else none
abbrev noD:D->Option D:=λ_=>none
theorem LH: ∀{l:List av},(∀g∈l,dC g=true)->cB l<=200*l.length
 | [],_=>by simp[lg]
 |g::r,h=>by have h1:=LH (l:=r) λx hx=>h x (.tail _ hx);have h2:=yS (h g (.head _));rw[gU,zam];omega
theorem OnR.none:OnR noD []:=λs=>by rw[zap (by simp)]
theorem OnR.go{f:D->Option D}{o:List aO}{i:Nat}(hi:i<o.length)(h:OnR f (o.take i)):OnR (λk'=>bif D.tY (eD o[i]) k' then some (.agg []) else f k') (o.take (i+1)):=λs=>by
 show(bif D.tY (eD o[i]) (eD s) then some (D.agg []) else f (eD s))=_;rw[qef,h s,zaf hi];by_cases hs:o[i]=s
 ·subst hs;rw[show(o[i]==o[i])=true by simp];show some (D.agg [])=_;rw[zaq (zbk _ (.head _))]
 rw[show(o[i]==s)=false by simpa using hs];show(if s∈o.take i then some (D.agg []) else Option.none)=_;by_cases hm:s∈o.take i
 ·rw[zaq hm,zaq (zbe _ hm)]
 rw[zap hm,zap (λhh=>(zaB.1 hh).elim hm λh2=>hs (za6.1 h2).symm)]
section
variable{X:XF}{w0:World}(hX:eG PR w0 X.cf)
include hX
end
theorem Uc{l:List av}{t:Tl}(hc: ∀g∈l,dC g=true)(hn:(l.map (·.s)).Nodup):(lD l t).length<=t.a.length:=
 zaE (qk hc hn _) (zaE (qj _) (n9 _ _))
section
variable{X:XF}
theorem Zp:LD X 11 7 (ah (aL 11 7) qeu):=LD.idx (H:=[(27,GR)]) (hk:=[(11,ah (aL 11 11) T6)]) (by kernel_rfl) (by kernel_rfl) (.cons Tp .nil) (.cons Ub .nil)
 (A:=List av×List aO) (B:=OfB) (λa b i=>of7 a.1 a.2 b.1 b.2.1 b.2.2.1 b.2.2.2.1 b.2.2.2.2.1 b.2.2.2.2.2.1 b.2.2.2.2.2.2.1 b.2.2.2.2.2.2.2 i) (λa=>a.1.length)
 (λa i b=>(a.1.length<=1000000/\a.2.length<=1000000/\ ∀g∈a.1,dC g=true)/\HJ (gF a.2 (a.1.take i)) b.1 b.2.1 b.2.2.1 b.2.2.2.1 b.2.2.2.2.1 b.2.2.2.2.2.1 b.2.2.2.2.2.2.1 b.2.2.2.2.2.2.2)
 (λa x=> ∃na np nh nl A P H L,HJ (gF a.2 a.1) na np nh nl A P H L/\x=(.exit 0,⟨140,[(0,.sl 0 0 a.1.length),(2,.ref 1 0 0),(3,.ref 7 0 0),(4,.sl 13 0 na),(5,.sl 14 0 np)],ofR a.1 a.2 nh nl A P H L⟩))
 (by
  rintro⟨m,o⟩ ⟨na,np,nh,nl,A,P,H,L⟩ i ae h0 cj bK ⟨hc,hR⟩ hn ho
  try dsimp only at*
  (rw[<-qbu];delta Zh Zt Z6 Z5 Zd TT TU OL Lz LA LB DX D1 HI D2 TV TX jO NX D3 TY D4 D5 D6 NR D7 D8 D9 JN Z3 yT fX wv Zm ei Ea Eb Aj tN Ak vU tQ OP vZ VJ JI oO oP r9 Zb nY Bw Dj Ye zt jP kz Nw tR Nx)
  have hB:=vW (on:=o) hc.2.2 i.toNat (by omega);have hN:cB (m.take i.toNat)<=300000000:=by have h1:=qf m i.toNat;have h2:=LH hc.2.2;have h3:=hc.1;omega
  have e1:D.nth (m.map cu) i.toNat=cu m[i.toNat]:=aG _ _ _ bK;have oT:=hc.2.2 _ (zar bK);have ng:=yP (on:=o) bK;rw[e1];refine bV cj (ak ⟨h0,cj⟩ (ak (by rw[zaa];exact bK) (ao (mT _) ⟨o,m[i.toNat].s,rfl,rfl,hc.2.1,λb hb=>⟨m,o,na,np,nh,nl,A,P,H,L,i,b,_,_,bK,rfl,⟨hR,hB,hN,h0,yS oT,yR oT⟩,λOM ON OO ju A' P' H' L' g1=>ak (by omega) (hn (OM,ON,OO,ju,A',P',H',L') ⟨hc,by rw[ng];unfold tlG;rw[<-hb];exact g1⟩)⟩⟩))))
 (by
  rintro⟨m,o⟩ ⟨na,np,nh,nl,A,P,H,L⟩ i ae hi ⟨hc,hR⟩ ho
  try dsimp only at*
  (rw[<-qbu];delta Zh Zt Z6 Z5 Zd TT TU OL Lz LA LB DX D1 HI D2 TV TX jO NX D3 TY D4 D5 D6 NR D7 D8 D9 JN Z3 yT fX wv Zm ei Ea Eb Aj tN Ak vU tQ OP vZ VJ JI oO oP r9 Zb nY Bw Dj Ye zt jP kz Nw tR Nx)
  rw[zag] at hR;exact oC (by omega) (ho _ (λh=>by cases h) ⟨na,np,nh,nl,A,P,H,L,hR,rfl⟩))
 (by rintro s ae ⟨m,o,rfl,hc,hp⟩;refine⟨(m,o),(0,0,0,0,[],[],[],[]),rfl,⟨hc,⟨rfl,rfl,rfl,rfl,rfl,rfl,rfl,rfl⟩⟩,?_⟩;rintro x ⟨na,np,nh,nl,A,P,H,L,g1,rfl⟩;exact hp na np nh nl A P H L g1)
theorem Ud:FD X 11 GZ:=FD.mk (H:=[(24,Sr),(26,TB),(25,TI),(29,qeo),(28,TR),(31,Tm),(30,Dr)]) (hk:=[(7,ah (aL 11 7) qeu)]) (by kernel_rfl) (.cons GB (.cons qbm (.cons qbn (.cons qgW (.cons qet (.cons qea (.cons S4 .nil))))))) (.cons Zp .nil) (by
 intro ps R ae hh;obtain⟨l,rfl,rfl,hs,hp⟩:=hh
 (rw[<-qix];delta jO Z9d fM gk NY N0 BG uM Z8s jA DY fa fZ mq ij iw vZ DX VL OL Lz TY D1 HI D2 TV TX D3 D4 D5 D6 NR D7 D8 D9 Z3 DZ Aj tN Ak vU tQ Z9c Du OD oR OQ Zq BL)
 have hl:=hs.1.1;have h1:=LG l;have h2:=rP l;have oT: ∀g∈au l,dC g=true:=gE;have ov:=kh l;have Al:cB (au l)<=1000:=zaE (rR l) hs.2;refine⟨l,rfl,rfl,hs.1,λm hm=> ?_⟩;have tm:List.take m.length (m.map cu)=m.map cu:=zan (by simp);rw[tm];refine⟨m,rfl,rfl,by rw[hm];omega,λh hh=> ?_⟩;have th:List.take h.length (h.map fN)=h.map fN:=zan (by simp);rw[th];refine⟨h,rfl,rfl,by rw[hh,zaa,hm];omega,λo ho=> ?_⟩;have fA:o=dE l:=by rw[ho,hh,hm];rfl
 refine⟨m,o,rfl,⟨by rw[hm];omega,by rw[fA];omega,by rw[hm];exact oT⟩,λna np nh nl A P H L hR=> ?_⟩;have hB:=vW (on:=o) (l:=m) (by rw[hm];exact oT) m.length (zai _);rw[zag,hm] at hB;have uS:=hB.mono Al;rw[hm] at hR;obtain⟨t,ht⟩: ∃t,t=gF o (au l):=⟨_,rfl⟩
 rw[<-ht] at hR uS;obtain⟨rfl,rfl,rfl,rfl,rfl,rfl,rfl,rfl⟩:=hR;have ta:List.take t.a.length (t.a.map cb)=t.a.map cb:=zan (by simp);have tp:List.take t.p.length (t.p.map eV)=t.p.map eV:=zan (by simp);have thh:List.take t.h.length (t.h.map ki)=t.h.map ki:=zan (by simp);have tg:List.take t.g.length (t.g.map ki)=t.g.map ki:=zan (by simp);have tn:List.take o.length (o.map eD)=o.map eD:=zan (by simp);have tk: ∀{α:Type} (f:α->D) (l:List α),List.take l.length (l.map f)=l.map f:=λf l=>zan (by simp);have b1:=uS.1;have b2:=uS.2.1;have b3:=uS.2.2.1;have b4:=uS.2.2.2;rw[ta,tp,thh,tg,tn,tm];refine⟨t.a,t.p,rfl,rfl,⟨by omega,b1.symm⟩,λq hq=> ?_⟩;rw[tk eV q];have hql:q.length<=t.a.length:=by rw[hq];exact zaE (qj _) (n9 _ _)
 refine⟨m,q,rfl,rfl,⟨by omega,by rw[hm];omega,by rw[hm];exact oT,by rw[hm];exact ov⟩,λp Pu=>⟨t.h,t.g,rfl,rfl,⟨by omega,by omega⟩,λv hv=> ?_⟩⟩;rw[tk eV p,tk cb v];have Nf:p=lD (au l) t:=by rw[Pu,hq,hm];rfl
 have Hj:p.length<=t.a.length:=by rw[Nf];exact Uc oT ov
 have hvl:v.length<=t.h.length:=by rw[hv];exact Lt _ _
 refine⟨p,v,rfl,rfl,⟨by omega,by omega⟩,?_⟩;rw[tk dW];exact hp o t p (bY (ly p) v) fA ht Nf (by rw[Nf,hv];rfl))
end
end Pi
