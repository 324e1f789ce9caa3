/- The texts Ef4H Ef6H Hi2 Hi2H Hi5 Hi5H UtP Vw1 Vw1H Vw2 Hi6 Hi6H Vw2H En1 En1H An1 An1H SRg SRh DpP ElP Wv1P Wv2P WvQ Wv9P Wv9 Wv9H Rp RpH Rm RmH Ro RoH HgP GnP Gn2 Gn2H Wv4 Wv5 Wv6 Wv7 Po1 Po1H Wv8 Wv9K Wv9L Wv10 Wv10H Wv11. -/
import Derived.Test.YtdgkdigdflkjhaaGreatDoorEae
import Derived.Stop.FmtQuoteTie
open Option renaming some→Z,none→Y
open Bool renaming false→C,true→O
open List renaming length→J
open Go renaming TypeId→I,Value→W,Program→M
open List renaming map→aa,take→ab,replicate→ee,take_succ_eq_append_getElem→mi,count→th,reverse→ue,set→vc
open Prod renaming fst→ba,snd→bl
open Nat renaming beq→bo,ble→gr,eq_of_beq_eq_true→pt,testBit→so
open Int renaming toNat→dd,tmod→te
open ByteArray renaming mk→gz
open Option renaming isSome→ir,map→mm
open Array renaming replicate→ss,range→tz
open Pi.D renaming int→we,aq→xz,aj→AM,agg→BC,nth→CE,str→GT,bool→IM,sl→IR,dq→OF,cq→Q3,c8→RK
open Pi.En renaming mk→AC
open Pi.PX renaming normal→AD,exit→DD,ret→Q4
open Pi.S renaming mk→AS
open Pi.Obj renaming arr→Cs,box→H1,map→If,iter→Sa
open Pi.P renaming d→Do,sl→IH,ref→So
open Go.Op renaming operands→FS,bytesLess→Nm,equalIn→Q1
open Go.IntKind renaming i64→GE
open Pi.K renaming fail→HH,bind→IN
open Pi.KW renaming fail→ID,bind→IT,ret→Mo,dN→Q2
open Pi.FD renaming mk→IS
open Pi.Ext renaming refl→No
open Pi.Names renaming refl→NO
open Pi.Code renaming nv→Of
open Go.Instr renaming sliceBound→OK,sliceBounds→PM
open Go.Builtin renaming zeroCells→PP
namespace Pi
open Go Go.Proofs
set_option maxRecDepth 100000
set_option maxHeartbeats 0
section
variable{X:XF}
theorem qaT:LD X 27 7 (ah (aV 27 7) qgP):=LD.wk .nil .nil
 (A:=List Hd×List Hd×Int) (B:=Bool) (λa b k=>qju a.1 a.2.1 b a.2.2 k) (λa=>J a.2.1) (λa _ _=>J a.2.1<=1000000/\0<=a.2.2/\a.2.2<(J a.1:Int))
 (λa x=> ∃h,x=(.exit 2,⟨80,[(0,Ed a.1),(3,.sl 0 0 (J a.2.1)),(4,iD a.2.2),(5,.d (.bool h))],[(0,⟨0,Y,Dl C a.2.1⟩)]⟩))
 (by
  rintro⟨l,out,i⟩ b k E h0 C8 hi hn ho;dsimp only at*
  (rw[<-qjv];delta iF Zs FO Z9Y Vu Z9V jg Z9U Z9R Nl Jw Zz ZA ZL ZT Zj Zl qO xT Dm Mf Z8 Z7 Zv Z9O)
  simp only[zaa];refine b8 (λU=> ?_) λ_=>ho _ _ (λh=>by cases h) ⟨_,rfl⟩;have eb:k.toNat<J out:=by omega
  rw[aA dX out _ eb,aA dX l i.toNat (by omega)];exact az (λ_=>ar (by omega) (hn _ U hi)) λ_=>ar ⟨h0,U⟩ (ar eb (ao (Mg _) (ar hi.2 (ao (Mg _) (ar (by omega) (hn _ U hi)))))))
 (by rintro s E ⟨l,out,i,b,rfl,h1,hp⟩;refine⟨(l,out,i),b,rfl,h1,?_⟩;rintro e s ⟨h,hx⟩;cases hx;exact hp h)
theorem qaU:LD X 27 13 (ah (aV 27 13) qgQ):=LD.sw (.cons Ci .nil) .nil
 (A:=List Hd×Int×Nat) dX (λa L k=>qjw a.1 L a.2.2 a.2.1 k) (λa=>a.2.2) 4 (λa L=>qog a.1 L a.2.2 a.2.1)
 (by
  rintro⟨l,i,n⟩ o k E hk hN ho hex Pn;dsimp only at*
  (rw[<-qjx];delta Za3 Zj Zl qO HU Zs nT Z9Z RD H8 H9 Za0 ZG ZM Mf Za Zb Za1 Vo Nj Nk Za2 Zn yZ y5 wQ rR tA jA D9 wR Z8 Z7 Z9 ZF)
  refine b8 (λh=> ?_) λ_=>hex;obtain⟨x,y,e1,e2,e3,B⟩:=Pn h;rw[e1,e2];simp only[e3,zaa,zbi,ho]
  repeat' first |exact hex |exact B |refine ar (by omega) ?_ |refine ao (Mg _) ?_ |refine⟨y.1,x.1,rfl,rfl,λr _=>az (λ_=> ?_) λ_=>hex⟩)
 (by rintro s E ⟨l,o,L,n,i,k,rfl,rfl,⟨h1,h2,U⟩,h⟩;exact⟨(l,i,n),o,k,rfl,h1,h2,U,h⟩)
theorem qaV:LD X 27 3 (ah (aV 27 3) qgR):=LD.wk .nil (.cons qaT (.cons qaU .nil))
 (A:=List Hd) (B:=List Hd) (λl o i=>qjy l o i) (λl=>J l) (λl i o=>J l<=1000000/\J o<=i)
 (λl x=> ∃o:List Hd,J o<=J l/\x=(.exit 0,⟨80,[(3,.sl 0 0 (J o))],[(0,⟨0,Y,Dl C o⟩)]⟩))
 (by
  rintro l o i E h0 dE ⟨xh,ho⟩ hn bF
  (rw[<-qjW];delta RE Za3 Zj Zl sq ZM jg Uz Z8 Zs FO ZbX ZbY Z7 Z9y Vu Z9Y Zz ZA Cu Zv FM iF Z9R Nl Jw Z5 Pk Z2 qO xT Dm Mf)
  simp only[zaa,zav,zaI,zaE];refine b8 (λU=> ?_) λ_=>bF _ _ (λh=>by cases h) ⟨o,by omega,rfl⟩;refine⟨l,o,i,C,rfl,⟨by omega,h0,U⟩,λh=> ?_⟩;rw[aA dX l i.toNat (by omega)];generalize l[i.toNat]=g;refine az (λ_=>ar (by omega) (hn _ U ⟨xh,by omega⟩)) λ_=>ar ⟨h0,U⟩ (ao (Mg _) (ao ?_ (ar (by omega) ⟨l,o++[g],_,J o+1,i,_,rfl,bx dX o g,⟨⟨by omega,by omega⟩,by omega,by simp⟩,λo' nk=>ar (by omega) ?_⟩)))
  ·rw[zac];exact⟨by simp,dw (by omega) (by omega)⟩
  rw[<-nk];exact hn o' U ⟨xh,by omega⟩)
 (by rintro s E ⟨l,rfl,hs,hp⟩;refine⟨l,[],rfl,⟨hs,by simp⟩,?_⟩;rintro e s ⟨o,ho,hx⟩;cases hx;exact hp o ho)
theorem qoo:FD X 27 qoi:=IS .nil (.cons qaV .nil) (by
 intro ps R E hh;obtain⟨l,rfl,rfl,h,B⟩:=hh
 (rw[<-qoh];delta Z9R Nl Jw jg xT FM ZbZ Z5 Us ZV Y1 Mf Zc0)
 exact⟨l,rfl,h,λo U=>B o U⟩)
theorem qe3:LD X 18 3 (ah (aV 18 3) qoj):=LD.wk .nil .nil
 (A:=List au) (B:=List Hd) (λl o i=>qeE l o i) (λl=>J l) (λl i o=>J l<=1000000/\J o=i)
 (λl x=> ∃o:List Hd,J o=J l/\x=(.exit 0,⟨26,[(3,.sl 0 0 (J o))],[(0,⟨0,Y,Dl C o⟩)]⟩))
 (by
  rintro l o i E h0 dE ⟨xh,ho⟩ hn bF
  (rw[<-qjz];delta Z9R Nl Jw jg xT Dm Zs ia su Za4 L9 Ma Uz Zz ZA Cu jf iG Z8 Z7 Zv Za5 Z9y nV kH tB Ju)
  simp only[zaa,zav,zaI,zaE];refine b8 (λU=> ?_) λ_=>bF _ _ (λh=>by cases h) ⟨o,by omega,rfl⟩;rw[aA dp l i.toNat (by omega)];generalize l[i.toNat]=g;have t2:BC [we GE (AM (xz (dp g) 0)),we GE (AM (xz (dp g) 1)),we GE (AM (xz (dp g) 4)),we GE (AM (xz (dp g) 5))]=dX (k8 g):=rfl;rw[t2,bx];refine ar ⟨h0,U⟩ (ao (mS _) (ar ⟨h0,U⟩ (ao (mS _) (ao ?_ (ar (by omega) ?_)))))
  ·rw[zac];exact⟨by simp,dw (by omega) (by omega)⟩
  have:=hn (o++[k8 g]) U ⟨xh,by simp;omega⟩;simp only[qeE,zaf,zav,zaI,zaE] at this;exact this)
 (by rintro s E ⟨l,rfl,hs,hp⟩;refine⟨l,[],rfl,⟨hs,by simp⟩,?_⟩;rintro e s ⟨o,ho,hx⟩;cases hx;exact hp o ho)
theorem qop:FD X 18 qol:=IS .nil (.cons qe3 .nil) (by
 intro ps R E hh;obtain⟨l,rfl,rfl,h,B⟩:=hh
 (rw[<-qok];delta Z9R Nl Jw jg xT sv ZbZ Z5 Us ZV Y1 ia jf iG Zc1)
 exact⟨l,rfl,h,λo U=>B o U⟩)
theorem qaW:LD X 17 8 (ah (aV 17 8) qgS):=LD.wk .nil .nil
 (A:=List Hd×List Hd×Int) (B:=Bool) (λa b k=>qjX a.1 a.2.1 a.2.2 b k) (λa=>J a.2.1) (λa _ _=>J a.2.1<=1000000/\0<=a.2.2/\a.2.2<(J a.1:Int))
 (λa x=> ∃h,x=(.exit 2,⟨63,[(3,.sl 0 0 (J a.1)),(4,.sl 1 0 (J a.2.1)),(5,iD a.2.2),(6,.d (.bool h))],[(0,⟨0,Y,Dl C a.1⟩),(1,⟨0,Y,Dl C a.2.1⟩)]⟩))
 (by
  rintro⟨l,out,i⟩ b k E h0 C8 hi hn ho;dsimp only at*
  (rw[<-qjY];delta iF Zs FO Vu Z9V jg Z9U Z9R Nl Zc3 Zz ZA ZR ZT Zj Zl zq Zc2 xT Dm Z8 Z7 Zv Z9O)
  simp only[zaa];refine b8 (λU=> ?_) λ_=>ho _ _ (λh=>by cases h) ⟨_,rfl⟩;have eb:k.toNat<J out:=by omega
  have bB:i.toNat<J l:=by omega
  rw[aA dX out _ eb,aA dX l _ bB];exact az (λ_=>ar (by omega) (hn _ U hi)) λ_=>ar ⟨h0,U⟩ (ar eb (ao (Mg _) (ar hi.2 (ar bB (ao (Mg _) (ar (by omega) (hn _ U hi))))))))
 (by rintro s E ⟨l,out,i,b,rfl,h1,hp⟩;refine⟨(l,out,i),b,rfl,h1,?_⟩;rintro e s ⟨h,hx⟩;cases hx;exact hp h)
theorem qaX:LD X 17 4 (ah (aV 17 4) qgT):=LD.wk .nil (.cons qaW .nil)
 (A:=List Hd) (B:=List Hd) (λm on i=>qe1 m on i) (λm=>J m) (λm i on=>J m<=1000000/\J on<=i)
 (λm x=> ∃o:List Hd,J o<=J m/\x=(.exit 0,⟨63,[(4,.sl 0 0 (J o))],[(0,⟨0,Y,Dl C o⟩)]⟩))
 (by
  rintro m on i E h0 dE ⟨xh,ho⟩ hn bF
  (rw[<-qj0];delta Z9R Nl Jw jg xT Uz Zz ZA ZB Z8 Z7 Zv Zs FO ZbX Z9y Vu Z9V Z9U FM iF Zc3 Z5 xD Z2 Zj Zl zq Zc2 Dm Z9O)
  simp only[zaa,zav,zaI,zaE];refine b8 (λU=> ?_) λ_=>bF _ _ (λh=>by cases h) ⟨on,by omega,rfl⟩;have bB:i.toNat<J m:=by omega
  refine⟨m,on,i,C,rfl,⟨by omega,h0,U⟩,λh=> ?_⟩;rw[aA dX m _ bB];generalize m[i.toNat]=g;have t2:BC [we GE (AM (xz (dX g) 0)),we GE (AM (xz (dX g) 1)),we GE (AM (xz (dX g) 2)),we GE (AM (xz (dX g) 3))]=dX g:=rfl;rw[t2,bx];refine az (λ_=>ar ⟨h0,U⟩ (ar bB (ao (Mg _) (ao ?_ (ar (by omega) ?_))))) λ_=>ar (by omega) (hn _ U ⟨xh,by omega⟩)
  ·rw[zac];exact⟨by simp,dw (by omega) (by omega)⟩
  have:=hn (on++[g]) U ⟨xh,by simp;omega⟩;simp only[qe1,zaf,zav,zaI,zaE] at this;exact this)
 (by rintro s E ⟨m,rfl,hs,hp⟩;refine⟨m,[],rfl,⟨hs,by simp⟩,?_⟩;rintro e s ⟨o,ho,hx⟩;cases hx;exact hp o ho)
theorem qaY:LD X 17 15 (ah (aV 17 15) qgU):=LD.par .nil .nil
 (A:=List Hd) (B:=List aN×Int) (λon b=>qe2 on b.1 b.2) (λon b=>(J on<=1000000/\J b.1=J on-1-b.2)/\ -1<=b.2/\b.2<J on) (λ_ b=>(b.2+1).toNat)
 (λon x=> ∃o:List aN,J o=J on/\x=(.exit 4,⟨63,[(8,.sl 0 0 (J o))],[(0,⟨0,Y,qT C o⟩)]⟩))
 (by
  rintro on ⟨out,i⟩ ⟨⟨U,ho⟩,h1,h2⟩;dsimp only at*
  (rw[<-qjZ];delta wj Eh Vx gX wm Z9R Nl ZG Z7W jg xT Z8 Z7 Z9 Zs FO Zc4 Ab Vu Z9V Z9U Z1)
  simp only[zaa,zav,zaI,zaE];refine b8 (λaZ=> ?_) λ_=>⟨out,by omega,rfl⟩
  have bB:i.toNat<J on:=by omega
  rw[aA dX on _ bB];generalize on[i.toNat]=h;have t2:BC [we GE (AM (xz (dX h) 0)),we GE (AM (xz (dX h) 1))]=bX h.1:=rfl;rw[t2,bx];refine ar ⟨by omega,by omega⟩ (ar bB (ao (Mg _) (ao ?_ (ar (by omega) ⟨i.toNat,by omega,(out++[h.1],i-1),?_,⟨⟨U,by simp;omega⟩,by simp only;omega,by simp only;omega⟩,by simp only;omega⟩))))
  ·rw[zac];exact⟨by simp,dw (by omega) (by omega)⟩
  simp only[qe2,zaf,zav,zaI,zaE])
 (by rintro s E ⟨on,i,rfl,⟨hi,U⟩,hp⟩;refine⟨on,([],i),rfl,⟨⟨U,by simp;omega⟩,by simp only;omega,by simp only;omega⟩,?_⟩;rintro x ⟨o,ho,rfl⟩;exact hp o ho)
theorem qoq:FD X 17 qon:=IS (.cons qoo .nil) (.cons qaX (.cons qaY .nil)) (by
 intro ps R E hh;obtain⟨l,rfl,rfl,U,hp⟩:=hh
 (rw[<-qom];delta wj Eh Vx gX wm Zj Zl Z7Z Jy Z9R Nl Af jg xT Z8 Zc6 Z7 ZbZ Z5 ZS Dm Zc5 FM Zn)
 exact⟨l,rfl,rfl,U,λo ho=>⟨o,rfl,by omega,λB Xb=>ar (by omega) ⟨B,_,rfl,⟨rfl,by omega⟩,λh ho3=>hp h (by omega)⟩⟩⟩)
end
theorem qe4{a b}(h:bX a=bX b):a=b:=by
 obtain⟨a1,a2⟩:=a;obtain⟨U,B⟩:=b;unfold bX at h;injection h with h
 injection h with h1 h2
 injection h2 with h2 h3
 injection h1 with _ h1
 injection h2 with _ h2
 simp at h1 h2;rw[h1,h2]
theorem qj1 a b:OF (bX a) (bX b)=(a==b):=by rw[zbf,D.bU,zbV];exact⟨qe4,λh=>by rw[h]⟩
section
variable{X:XF}
end
def PD(m:List au):=J m<=1000000/\ ∀g∈m,1<=g.s.2/\g.s.2<=16/\1<=g.s.1/\g.s.1<=1099511627776/\1<=g.n/\g.n<=1099511627776
def qaZ:bc:=λps R E=> ∃v r n,ps=[vD v,iD r,iD n]/\R=[]/\(J v<=1000000/\1<=r/\r<=16)/\ ∀w,w=cc (lh v r n)->E (.cy [vD w,iD 0],[])
theorem PD.sub{m k}(h:PD m)(B: ∀g∈k,g∈m)(hl:J k<=1000000):PD k:=⟨hl,λg U=>h.2 g (B g U)⟩
section
variable{X:XF}
theorem qe5:FD X 42 qaZ:=qdf.weaken λps R E h=>by obtain⟨v,r,n,rfl,rfl,⟨B,h1,h2⟩,U⟩:=h;exact⟨v,r,n,rfl,rfl,B,λh=>absurd ⟨h1,h2⟩ h,λ_=>U _ rfl⟩
theorem qa0{m i}(h:i<J m):tv (m.take (i+1))=max (tv (m.take i)) m[i].s.1:=by rw[zah h,YV]
end
def qso r (x:au):=x.s.2==r
structure qtw(m:List au)(r i k:Int):Prop where
 len:J m<=1000000
 i0:0<=i
 ik:k=i+1
 kl:k<=J m
 eq:(m.take k.toNat).filter (qso r)=m.take i.toNat
theorem CK{α:Type}{f:α->D}(B: ∀{a b},f a=f b->a=b){l m:List α}(h:l.map f=m.map f):l=m:=(List.map_inj_right (f:=f) (λ_ _=>B)).1 h
theorem qor{a b}(h:bX a=bX b):a=b:=by obtain⟨U,B⟩:=a;unfold bX iE at h;simp only[D.agg.injEq,za9,D.int.injEq,zcG,zcu] at h;rw[h.1,h.2]
theorem qgV{a b}(h:aF a=aF b):a=b:=by obtain⟨a1,U,B⟩:=a;unfold aF at h;simp only[D.agg.injEq,za9,D.int.injEq,zcG,zcu] at h;rw[h.1,h.2.1,h.2.2]
theorem qj2{l m}(h:bL l=bL m):l=m:=CK (f:=we GE) (λh=>by cases h;rfl) h
theorem qos{a b}(h:eX a=eX b):a=b:=by obtain⟨k,⟨n1,n2,n3⟩,⟨p1,p2,p3⟩,nm,dr,ds,⟨a1,a2,a3⟩,⟨e1,e2,e3⟩,tx,es⟩:=a;unfold eX iE at h;simp only[D.agg.injEq,za9,D.int.injEq,D.str.injEq,D.bool.injEq,D.sl.injEq,zcG,zcu] at h;obtain⟨rfl,rfl,rfl,rfl,rfl,rfl,rfl,rfl,rfl,U,rfl,rfl,rfl,rfl,rfl,rfl,rfl,B⟩:=h;rw[CK qor U,CK qgV B]
theorem qot{a b}(h:dp a=dp b):a=b:=by obtain⟨⟨s1,s2⟩,n,d,⟨u1,u2⟩,o⟩:=a;unfold dp iE at h;simp only[D.agg.injEq,za9,D.int.injEq,D.sl.injEq,zcG,zcu] at h;obtain⟨rfl,rfl,rfl,U,rfl,rfl,B⟩:=h;rw[qj2 U,CK qos B]
section
variable{X:XF}
end
def qk(ns:List Nat):List (Nat×En)->List (Nat×En)
 | []=>[]
 | (k,e)::r=>(k,if gE k ns then⟨e.aU,Y,e.obj⟩ else e)::qk ns r
def S.mW(ns:List Nat)(s:S):S:=⟨s.n,s.tm,qk ns s.rg⟩
theorem CL ns n: ∀R,lk (qk ns R) n=(lk R n).map λe=>if gE n ns then⟨e.aU,Y,e.obj⟩ else e
 | []=>rfl
 | (k,e)::r=>by
  simp only[qk,lk];split
  ·simp_all
  exact CL ns n r
theorem lU{ns R n e'}(h:lk (qk ns R) n=Z e'): ∃e,lk R n=Z e/\e'.aU=e.aU/\e'.obj=e.obj/\(e'.tag=Y\/e'=e):=by rw[CL,zap] at h;grind
theorem Mu{ns R n e}(h:lk R n=Z e): ∃e',lk (qk ns R) n=Z e'/\e'.aU=e.aU/\e'.obj=e.obj:=by rw[CL,h];refine⟨_,rfl,?_⟩;split<;>exact⟨rfl,rfl⟩
section
variable{Q:M}{T:Tg}{F:Nat->Prop}{G:Nat->W}{w:World}{a:Act}{s:S}{ns:List Nat}
theorem FR:Own G (qk ns s.rg)=Own G s.rg:=by
 funext b;refine propext ⟨?_,?_⟩
 ·rintro⟨n,e',he,hb⟩;obtain⟨e,B,_,h,_⟩:=lU he;exact⟨n,e,B,by rw[<-h];exact hb⟩
 rintro⟨n,e,he,hb⟩;obtain⟨e',B,_,h⟩:=Mu (ns:=ns) he;exact⟨n,e',B,by rw[h];exact hb⟩
theorem ax.mW(h:ax Q T F G w a s):ax Q T F G w a (s.mW ns):=by
 have hN:Names G G s.rg (qk ns s.rg):=⟨λn e B=>by obtain⟨e',U,h2,h3⟩:=Mu (ns:=ns) B;grind,λ_ _ _ _ _ _ _=> .inl rfl⟩
 have hx:Ext (Own G s.rg) (Own G (qk ns s.rg)) F F w w:=by rw[FR];exact No _ _ _
 refine⟨h.oR.go hx,h.size,λt p hp=>bR.mono (λ_ h=>h) (λ_ _=>rfl) hN (h.tm t p hp),λn e' B=> ?_,λn m e e' b B cP hb db=> ?_,λn e b B hb=> ?_,h.gL,λn e i B hi hl=> ?_,h.z,h.dr,h.sz⟩
 ·obtain⟨e,U,_,h3,_⟩:=lU B;rw[h3];exact(h.rg n e U).mono (λ_ h=>h) (λ_ _=>rfl) hN rfl (λ_ _=>rfl)
 ·obtain⟨x,U,_,h3,_⟩:=lU B;obtain⟨x',Wl,_,h3',_⟩:=lU cP;rw[h3] at hb;rw[h3'] at db;exact h.own n m x x' b U Wl hb db
 ·obtain⟨x,U,_,h3,_⟩:=lU B;rw[h3] at hb;exact h.jb n x b U hb
 obtain⟨x,U,_,h3,h4⟩:=lU B;rcases h4 with h4 |h4
 ·rw[h4] at hi;cases hi
 subst h4;exact h.tag n _ i U hi hl
end
theorem TW.mW{Q T c s}{ns E}(h:TW Q T c (s.mW ns) E):TW Q T c s E:=λr B F G w a Q' U hK=>h B F G w a Q' U.mW λe s' a' w' hp hP=>hK e s' a' w' hp (by obtain⟨F',G',h1,h2⟩:=hP;refine⟨F',G',h1,?_⟩;have e:Own G (s.mW ns).rg=Own G s.rg:=FR;rw[<-e];exact h2)
theorem LN.qsp{X w0}(hX:b7 PR w0 X.cf) ns {H HN hk}{f id:Nat}{g}(hnr:(cr (bA PR f id)).isEmpty=O)(hH:HD X H)(jd:Jb w0 HN)(hl:Lu w0 f hk)
  {A B:Type} (hd:A->B->S) (Inv:A->B->Prop) (mu:A->B->Nat) (Out:A->PX×S->Prop)
  (hr: ∀a b,Inv a b->bV H HN hk f id (hd a b) (roundPost (mu a b) (λm s=> ∃U,s.mW ns=hd a U/\Inv a U/\m=mu a U) (Out a)))
  (hg: ∀s E,g s E-> ∃a b,s.mW ns=hd a b/\Inv a b/\ ∀x,Out a x->E x) (hu:uniq PR f=O:=by kernel_rfl):LN w0 f id (ah (aV f id) g):=by
 intro val lo mk s E hp;unfold ah at hp;cases hh:cQ (aV f id) s with
 |none=>grind
 |some s0=>
  simp only[hh] at hp;obtain⟨a,b,h0,h1,h2⟩:=hg s0 E hp;refine TW.mono (TW.loop (keep:=aV f id) (I:=λm s=> ∃U,s.mW ns=hd a U/\Inv a U/\m=mu a U) (O:=Out a) (λn s hs=> ?_) hh ⟨b,h0,h1,rfl⟩) h2;obtain⟨U,h4,h3,rfl⟩:=hs;have:=hr a U h3;unfold bV at this;refine TW.mW (ns:=ns) ?_;rw[h4];refine TW.mono (sd (kp:=yP X) (T:=⟨val,w0,lo,mk⟩) jd.get (nR hH) hX sK (kp1:=aV f) (bA PR f id) (qcZ f id) (λd hd h hh s E hp=>by have:=hl.get _ _ hh val lo mk s E hp;rwa [sc hu hd] at this) (λx hx=>by rw[zbJ.1 hnr] at hx;cases hx) _ _ this) ?_;rintro⟨e,s1⟩ hx;cases e with
  |normal=>obtain⟨s2,h4,m,h5,h6⟩:=Q2 (p:=λs2=>cQ (aV f id) s1=Z s2) (λ_ h=>h) _ hx;grind
  |exit i=>obtain⟨s2,h4,h5⟩:=Q2 (p:=λs2=>dD (aV f id) s1=Z s2) (λ_ h=>h) _ hx;exact⟨s2,h4,h5⟩
  |ret=>obtain⟨s2,h4,h5⟩:=Q2 (p:=λs2=>dD (aV f id) s1=Z s2) (λ_ h=>h) _ hx;exact⟨s2,h4,h5⟩
theorem LN.qou{X w0}(hX:b7 PR w0 X.cf) ns {H HN hk}{f id:Nat}{g}(hnr:(cr (bA PR f id)).isEmpty=O)(hH:HD X H)(jd:Jb w0 HN)(hl:Lu w0 f hk)
  {A B:Type} (hd:A->B->Int->S) (len:A->Nat) (Inv:A->Nat->B->Prop) (h:A->PX×S->Prop)
  (hr: ∀a b (k:Int) E,0<=k->k<len a->k.toNat<len a->Inv a k.toNat b->(∀U s,S.mW ns s=hd a U (k+1)->Inv a (k.toNat+1) U->E (.normal,s))->(∀x,x.1≠ .normal->h a x->E x)->bV H HN hk f id (hd a b k) E)
  (hx: ∀a b (k:Int) E,k=len a->Inv a (len a) b->(∀x,x.1≠ .normal->h a x->E x)->bV H HN hk f id (hd a b k) E)
  (hg: ∀s E,g s E-> ∃a b,S.mW ns s=hd a b 0/\Inv a 0 b/\ ∀x,h a x->E x) (hu:uniq PR f=O:=by kernel_rfl):LN w0 f id (ah (aV f id) g):=
 LN.qsp hX ns hnr hH jd hl (hu:=hu) (A:=A) (B:=B×Int) (λa b=>hd a b.1 b.2) (λa b=>0<=b.2/\b.2.toNat<=len a/\Inv a b.2.toNat b.1) (λa b=>(len a-b.2).toNat) h
  (by
   rintro a ⟨b,k⟩ ⟨h1,h2,h3⟩;have bF: ∀x:PX×S,x.1≠ .normal->h a x->roundPost ((len a-k).toNat) (λm s=> ∃U:B×Int,s.mW ns=hd a U.1 U.2/\(0<=U.2/\U.2.toNat<=len a/\Inv a U.2.toNat U.1)/\m=(len a-U.2).toNat) (h a) x:=by
    rintro⟨e,s⟩ cU hx;cases e with
    |normal=>grind
    |exit i=>exact hx
    |ret=>exact hx
   by_cases hk:k<len a
   ·refine hr a b k _ h1 hk (by omega) h3 (λU s hs hb=> ?_) bF;exact⟨((len a:Int)-(k+1)).toNat,by omega,(U,k+1),hs,⟨by grind,by grind,by grind⟩,rfl⟩
   grind)
  (by intro s E hp;obtain⟨a,b,h1,h2,h3⟩:=hg s E hp;exact⟨a,(b,0),h1,⟨zbW _,by simp,h2⟩,h3⟩)
abbrev onM(f:D->Option D)(c:Int):Obj:= .map 27 f c C
abbrev qe6(f:D->Option D)(c:Int):Obj:= .map 49 f c C
abbrev vwB(h no na np nh nl:Nat):Obj:= .box 74 [.sl 1 0 h,.sl 2 0 no,.mp 3 0,.sl 4 0 na,.sl 5 0 np,.mp 6 0,.sl 7 0 nh,.sl 8 0 nl]
abbrev vwR(g:List au)(o:List aN)(f:D->Option D)(c:Int)(d:D->Option D)(n:Int)(na np nh nl:Nat)(A P H L:List D):List (Nat×En):=[(0,⟨0,Z 0,vwB (J g) (J o) na np nh nl⟩),(1,⟨0,Z 1,xR C g⟩),(2,⟨0,Z 2,qT C o⟩),(3,⟨0,Z 3,onM f c⟩),(4,⟨0,Y,.arr 49 C A⟩),(5,⟨0,Y,.arr 108 C P⟩),(6,⟨0,Z 6,qe6 d n⟩),(7,⟨0,Y,.arr 121 C H⟩),(8,⟨0,Y,.arr 121 C L⟩)]
abbrev qj3(x:au):Obj:= .box 31 [iD x.s.1,iD x.s.2,iD x.n,.d (.sl 1 (bL x.deps)),iD x.je.1,iD x.je.2,.d (.sl 18 (x.ops.map eX))]
abbrev qov(o:bq):Obj:= .box 79 [iD o.kind,iD o.node.1,iD o.node.2.1,iD o.node.2.2,iD o.parent.1,iD o.parent.2.1,iD o.parent.2.2,sD o.name,.d (.bool o.dir),mR o.cV,iD o.after.1,iD o.after.2.1,iD o.after.2.2,iD o.elem.1,iD o.elem.2.1,iD o.elem.2.2,sD o.text,cF o.elems]
abbrev gaH(x:au)(g:List au)(o:List aN)(f:D->Option D)(c:Int)(d:D->Option D)(n:Int)(na np nh nl:Nat)(A P H L:List D)(on:Bool)(i:Int):S:=⟨117,[(0,.ref 0 0 0),(3,.ref 9 0 0),(4,.d (.bool on)),(14,.d (.sl 18 (x.ops.map eX))),(15,iD (J (x.ops.map eX):Int)),(16,iD i)],vwR g o f c d n na np nh nl A P H L++[(9,⟨0,Y,qj3 x⟩)]⟩
abbrev qj4(x:au)(y:bq)(g:List au)(o:List aN)(f:D->Option D)(c:Int)(d:D->Option D)(n:Int)(na np nh nl:Nat)(A P H L:List D)(on:Bool)(i j:Int):S:=⟨117,[(0,.ref 0 0 0),(3,.ref 9 0 0),(4,.d (.bool on)),(6,.ref 10 0 0),(14,.d (.sl 18 (x.ops.map eX))),(15,iD (J (x.ops.map eX):Int)),(16,iD i),(95,mR y.cV),(96,iD (J (y.cV.map bX):Int)),(97,iD j)],vwR g o f c d n na np nh nl A P H L++[(9,⟨0,Y,qj3 x⟩),(10,⟨0,Y,qov y⟩)]⟩
def Zcd x:=(15,Do (we GE (zt x)))
def Zcc x:=(14,qR x)
def Zca on:=(4,iF on)
def CM:=(3,So 9 0 0)
def Zcr nh nl:=[P.mp 6 0,IH 7 0 nh,IH 8 0 nl]
def Iw o:=IH 2 0 (gX o)
def El(g:List au):=IH 1 0 (J g)
def Dq g o na np nh nl:=(0,AC 0 (Z 0) (H1 (74:I) (El g::Iw o::kP::IH 4 0 na::Jc np::Zcr nh nl)))
def Zcp y:=AC 0 Y (H1 (79:I) (Do (D2 y)::Do (Ch y)::Do (Cg y)::Do (Cf y)::Do (Jq y)::Do (Jp y)::Do (Jn y)::Do (GT (bq.name y))::Do (IM (bq.dir y))::Do (Fs y)::Do (LL y)::Do (LK y)::Do (LJ y)::Do (we GE (D1 y))::Do (we GE (D0 y))::Do (we GE (DZ y))::Do (GT (bq.text y))::Z8k y))
def Zcq x y:=[(9,Cx x),(10,Zcp y)]
def mX H:=AC 0 Y (Cs (121:I) C H)
def xU d n:=(6,AC 0 (Z 6) (qw d n))
def Ix P:=AC 0 Y (Cs (108:I) C P)
def xV P:=(5,Ix P)
def xW A:=(4,vU A)
def pr f c:=(3,AC 0 (Z 3) (If 27 f c C))
def py o:=(2,AC 0 (Z 2) (wj o))
def pA g:=(1,AC 0 (Z 1) (Cs (31:I) C (ia g)))
def Zcb:=(6,So 10 0 0)
def Zce on x i y j:=[fq,CM,Zca on,Zcb,Zcc x,Zcd x,(16,Zl i),(95,Do (Fs y)),(96,Do (we GE (Pa y))),(97,ZA j)]
def Zc7 y j:=CE (aa bX (bq.cV y)) (Zs j)
def Zc8 y j:=[BC [Ch y,Cg y,Cf y,we GE (AM (xz (Zc7 y j) 0)),we GE (AM (xz (Zc7 y j) 1))]]
theorem qj5 x y g o f c d n na np nh nl A P H L on i j E:(bif decide (j<Pa y) then ob (decide ((0:Int)<=j/\j<Pa y)) (ob (bE PR (27:I) (Zc7 y j)) (bif on then ob (Dg nl L&&aB (nl+J (Zc8 y j)) 40) (ob (Zv j) (E (AD,AS 117 (Zce on x i y j) ((0,AC 0 (Z 0) (H1 (74:I) [El g,Iw o,kP,Pi.P.sl 4 0 na,Jc np,Pi.P.mp 6 0,Pi.P.sl 7 0 nh,Pi.P.sl 8 0 (nl+J (Zc8 y j))]))::pA g::py o::pr f c::xW A::xV P::xU d n::(7,mX H)::(8,AC 0 Y (Cs (121:I) C (ab nl L++Zc8 y j)))::Zcq x y)))) else ob (Zv j) (E (AD,AS 117 (Zce on x i y j) (Dq g o na np nh nl::pA g::py o::pr f c::xW A::xV P::xU d n::(7,mX H)::(8,mX L)::Zcq x y))))) else E (DD 2,AS 117 [fq,CM,Zca on,Zcc x,Zcd x,(16,Zl i)] [Dq g o na np nh nl,pA g,py o,pr f c,xW A,xV P,xU d n,(7,mX H),(8,mX L),(9,Cx x)]))=(bV [] [] [] 45 13 (qj4 x y g o f c d n na np nh nl A P H L on i j)) E:=by kernel_rfl
def R6(y:bq):List aT:=y.cV.map λs=>(y.node,s)
def R7 on y (_:Nat) L B h:=B=J h/\h=L++(if on=O then(R6 y).map eK else [])
def qgW:S->K (PX×S):=λs E=> ∃x y g o f c d n na np nh nl A P H L on i,s.mW [4,5,7,8]=qj4 x y g o f c d n na np nh nl A P H L on i 0/\(J y.cV<=200/\nl=J L/\nl<=100000000000)/\ ∀h B,R7 on y nl L h B->E (.exit 2,gaH x g o f c d n na np nh h A P H B on i)
def ZcI H L:=[(7,mX H),(8,mX L)]
def Zcv x i:=[BC [Z8t x i,Z8u x i,Z8v x i,oF x,nC x]]
def Zcz nh x i nl:=[P.mp 6 0,IH 7 0 (nh+J (Zcv x i)),IH 8 0 nl]
def ZcH g o na np nh x i nl:=(0,AC 0 (Z 0) (H1 (74:I) (El g::Iw o::kP::IH 4 0 na::Jc np::Zcz nh x i nl)))
def Iy L x i:=[(8,mX L),(9,Cx x),(10,AC 0 Y (H1 (79:I) [Do (we GE (Aj x i)),Do (Z8t x i),Do (Z8u x i),Do (Z8v x i),Do (Z8w x i),Do (Z8x x i),Do (Z8y x i),Do (GT (Q3 (xz (lJ x i) 7))),Do (IM (RK (xz (lJ x i) 8))),Do (IR 2 (D.gh (xz (lJ x i) 9))),Do (Z8z x i),Do (Z8A x i),Do (Z8B x i),Do (Z8C x i),Do (Z8D x i),Do (Z8E x i),Do (GT (Q3 (xz (lJ x i) 16))),Do (IR 3 (D.gh (xz (lJ x i) 17)))]))]
def Zcu x i:=[BC [Z8t x i,Z8u x i,Z8v x i,Z8w x i,Z8x x i,Z8y x i,GT (Q3 (xz (lJ x i) 7)),IM (RK (xz (lJ x i) 8))]]
def Zct na x i:=na+J [BC (oF x::nC x::Zk i)]
def ZcG g o na x i np nh nl:=(0,AC 0 (Z 0) (H1 (74:I) (El g::Iw o::kP::IH 4 0 (Zct na x i)::IH 5 0 (np+J (Zcu x i))::Zcr nh nl)))
def ZcF nh H x i L:=(7,AC 0 Y (Cs (121:I) C (ab nh H++Zcv x i)))::Iy L x i
def R8 x i (d:D->Option D) n:=(6,AC 0 (Z 6) (If 49 (λh=>bif OF (BC [we GE (AM (xz (lJ x i) k7)),we GE (AM (xz (lJ x i) (k7+1))),we GE (AM (xz (lJ x i) B1))]) h then Z (IM (RK (xz (lJ x i) (OT+1)))) else d h) (bif ir (d (BC [Z8t x i,Z8u x i,Z8v x i])) then n else n+(1:Int)) C))
def R9 np P x i:=(5,AC 0 Y (Cs (108:I) C (ab np P++Zcu x i)))
def Sb na A x i:=(4,AC 0 Y (Cs (49:I) C (ab na A++[BC (oF x::nC x::Zk i)])))
def ZcA g o na x i np nh nl:=(0,AC 0 (Z 0) (H1 (74:I) (El g::Iw o::kP::IH 4 0 (Zct na x i)::IH 5 0 (np+J (Zcu x i))::Zcz nh x i nl)))
def y9 on x i:=[fq,CM,Zca on,Zcb,Zcc x,Zcd x,(16,Zl i),(95,Do (IR 2 (D.gh (xz (lJ x i) 9)))),(96,Do (we GE (↑(J (D.gh (xz (lJ x i) 9))):Int))),(97,Do Z5)]
def za(E:PX×S->Prop):=λs0=> ∃h y bJ bC Iz ft B kO lK lL lM U Dr Ds Dt Sc ib bh,s0=AS 117 [fq,CM,Zca ib,Zcb,Zcc h,Zcd h,(16,Zl bh),(95,Do (Fs y)),(96,Do (we GE (Pa y))),(97,Do Z5)] (Dq bJ bC lK lL lM U::pA bJ::py bC::pr Iz ft::xW Dr::xV Ds::xU B kO::(7,mX Dt)::(8,mX Sc)::Zcq h y)/\(J (bq.cV y)<=200/\U=J Sc/\U<=100000000000)/\ ∀iH L',R7 ib y U Sc iH L'->ob (Zv bh) (E (AD,AS 117 [fq,CM,Zca ib,Zcc h,Zcd h,(16,ZA bh)] [Dq bJ bC lK lL lM iH,pA bJ,py bC,pr Iz ft,xW Dr,xV Ds,xU B kO,(7,mX Dt),(8,mX L'),(9,Cx h)]))
def Zcw nh H x i:=Dg nh H&&aB (nh+J (Zcv x i)) 40
theorem qgX x g o f c d n na np nh nl A P H L on i E:(bif Z8o i x then ob (Z4 i x) (ob (bE PR (79:I) (lJ x i)) (bif Aj x i==(0:Int) then bif Aj x i==(0:Int) then ob (Dg na A&&aB (Zct na x i) 24) (ob (Dg np P&&aB (np+J (Zcu x i)) 72) (bif on then bif Aj x i !=(2:Int) then ob (Zcw nh H x i) (za E (AS 117 (y9 on x i) (ZcA g o na x i np nh nl::pA g::py o::pr f c::Sb na A x i::R9 np P x i::R8 x i d n::ZcF nh H x i L))) else za E (AS 117 (y9 on x i) (ZcG g o na x i np nh nl::pA g::py o::pr f c::Sb na A x i::R9 np P x i::R8 x i d n::(7,mX H)::Iy L x i)) else za E (AS 117 (y9 on x i) (ZcG g o na x i np nh nl::pA g::py o::pr f c::Sb na A x i::R9 np P x i::R8 x i d n::(7,mX H)::Iy L x i)))) else bif Aj x i==(1:Int) then bif on then ob (Dg na A&&aB (Zct na x i) 24) (ob (Dg np P&&aB (np+J (Zcu x i)) 72) (bif on then bif Aj x i !=(2:Int) then ob (Zcw nh H x i) (za E (AS 117 (y9 on x i) (ZcA g o na x i np nh nl::pA g::py o::pr f c::Sb na A x i::R9 np P x i::R8 x i d n::ZcF nh H x i L))) else za E (AS 117 (y9 on x i) (ZcG g o na x i np nh nl::pA g::py o::pr f c::Sb na A x i::R9 np P x i::R8 x i d n::(7,mX H)::Iy L x i)) else za E (AS 117 (y9 on x i) (ZcG g o na x i np nh nl::pA g::py o::pr f c::Sb na A x i::R9 np P x i::R8 x i d n::(7,mX H)::Iy L x i)))) else bif on then bif Aj x i !=(2:Int) then ob (Zcw nh H x i) (za E (AS 117 (y9 on x i) (ZcH g o na np nh x i nl::pA g::py o::pr f c::xW A::xV P::R8 x i d n::ZcF nh H x i L))) else za E (AS 117 (y9 on x i) (Dq g o na np nh nl::pA g::py o::pr f c::xW A::xV P::R8 x i d n::(7,mX H)::Iy L x i)) else za E (AS 117 (y9 on x i) (Dq g o na np nh nl::pA g::py o::pr f c::xW A::xV P::R8 x i d n::(7,mX H)::Iy L x i)) else bif on then bif Aj x i !=(2:Int) then ob (Zcw nh H x i) (za E (AS 117 (y9 on x i) (ZcH g o na np nh x i nl::pA g::py o::pr f c::xW A::xV P::R8 x i d n::ZcF nh H x i L))) else za E (AS 117 (y9 on x i) (Dq g o na np nh nl::pA g::py o::pr f c::xW A::xV P::R8 x i d n::(7,mX H)::Iy L x i)) else za E (AS 117 (y9 on x i) (Dq g o na np nh nl::pA g::py o::pr f c::xW A::xV P::R8 x i d n::(7,mX H)::Iy L x i)) else bif Aj x i==(0:Int) then ob (Dg na A&&aB (Zct na x i) 24) (ob (Dg np P&&aB (np+J (Zcu x i)) 72) (bif on then bif Aj x i !=(2:Int) then ob (Zcw nh H x i) (za E (AS 117 (y9 on x i) (ZcA g o na x i np nh nl::pA g::py o::pr f c::Sb na A x i::R9 np P x i::xU d n::ZcF nh H x i L))) else za E (AS 117 (y9 on x i) (ZcG g o na x i np nh nl::pA g::py o::pr f c::Sb na A x i::R9 np P x i::xU d n::(7,mX H)::Iy L x i)) else za E (AS 117 (y9 on x i) (ZcG g o na x i np nh nl::pA g::py o::pr f c::Sb na A x i::R9 np P x i::xU d n::(7,mX H)::Iy L x i)))) else bif Aj x i==(1:Int) then bif on then ob (Dg na A&&aB (Zct na x i) 24) (ob (Dg np P&&aB (np+J (Zcu x i)) 72) (bif on then bif Aj x i !=(2:Int) then ob (Zcw nh H x i) (za E (AS 117 (y9 on x i) (ZcA g o na x i np nh nl::pA g::py o::pr f c::Sb na A x i::R9 np P x i::xU d n::ZcF nh H x i L))) else za E (AS 117 (y9 on x i) (ZcG g o na x i np nh nl::pA g::py o::pr f c::Sb na A x i::R9 np P x i::xU d n::(7,mX H)::Iy L x i)) else za E (AS 117 (y9 on x i) (ZcG g o na x i np nh nl::pA g::py o::pr f c::Sb na A x i::R9 np P x i::xU d n::(7,mX H)::Iy L x i)))) else bif on then bif Aj x i !=(2:Int) then ob (Zcw nh H x i) (za E (AS 117 (y9 on x i) (ZcH g o na np nh x i nl::pA g::py o::pr f c::xW A::xV P::xU d n::ZcF nh H x i L))) else za E (AS 117 (y9 on x i) (Dq g o na np nh nl::pA g::py o::pr f c::xW A::xV P::xU d n::(7,mX H)::Iy L x i)) else za E (AS 117 (y9 on x i) (Dq g o na np nh nl::pA g::py o::pr f c::xW A::xV P::xU d n::(7,mX H)::Iy L x i)) else bif on then bif Aj x i !=(2:Int) then ob (Zcw nh H x i) (za E (AS 117 (y9 on x i) (ZcH g o na np nh x i nl::pA g::py o::pr f c::xW A::xV P::xU d n::ZcF nh H x i L))) else za E (AS 117 (y9 on x i) (Dq g o na np nh nl::pA g::py o::pr f c::xW A::xV P::xU d n::(7,mX H)::Iy L x i)) else za E (AS 117 (y9 on x i) (Dq g o na np nh nl::pA g::py o::pr f c::xW A::xV P::xU d n::(7,mX H)::Iy L x i)))) else E (DD 0,AS 117 Z2L (Dq g o na np nh nl::pA g::py o::pr f c::xW A::xV P::xU d n::ZcI H L)))=(bV [] [] [(13,ah (aV 45 13) qgW)] 45 3 (gaH x g o f c d n na np nh nl A P H L on i)) E:=by kernel_rfl
def sR(e:ak->Option Bool)(y:bq):=λz=>if y.kind=0/\y.node=z then Z y.dir else e z
def lN(d:D->Option D)(e:ak->Option Bool):= ∀z,d (aF z)=(e z).map IM
structure CN(t:Tl)(na np nh nl:Nat)(A P H L:List D):Prop where
 na:na=J t.a
 np:np=J t.p
 nh:nh=J t.h
 nl:nl=J t.g
 a:A=t.a.map aF
 p:P=t.p.map bI
 h:H=t.h.map eK
 l:L=t.g.map eK
abbrev gaE(g:List au)(o:List aN)(f:D->Option D)(c:Int)(d:D->Option D)(n:Int)(na np nh nl:Nat)(A P H L:List D):S:=⟨117,[(0,.ref 0 0 0)],vwR g o f c d n na np nh nl A P H L⟩
def qow:S->K (PX×S):=λs E=> ∃x g o f c d n na np nh nl A P H L on t N e,s.mW [4,5,7,8]=gaH x g o f c d n na np nh nl A P H L on 0/\(CN t na np nh nl A P H L/\lN d e/\Ad N t/\N<=300000000/\J x.ops<=200/\ ∀y∈x.ops,J y.cV<=200)/\
 ∀d' n' U B h iH A' P' H' L',CN (YW on x.s x.ops t) U B h iH A' P' H' L'->lN d' (x.ops.foldl sR e)->E (.exit 0,gaE g o f c d' n' U B h iH A' P' H' L')
abbrev qox(g:List au)(o:List aN)(f:D->Option D)(c:Int)(d:D->Option D)(n:Int)(na np nh nl:Nat)(A P H L:List D):List (Nat×En):=[(0,⟨0,Z 0,vwB (J g) (J o) na np nh nl⟩),(1,⟨0,Z 1,xR C g⟩),(2,⟨0,Z 2,qT C o⟩),(3,⟨0,Z 3,onM f c⟩),(4,⟨0,Z 4,.arr 49 C A⟩),(5,⟨0,Z 5,.arr 108 C P⟩),(6,⟨0,Z 6,qe6 d n⟩),(7,⟨0,Z 7,.arr 121 C H⟩),(8,⟨0,Z 8,.arr 121 C L⟩)]
theorem qsq x g o f c d n na np nh nl A P H L E:(ob (bE PR (103:I) (aK (f (LI x)) jh)) (∃h U bC Iz ft B kO lK lL lM uz Dr Ds Dt Sc on t N e,AS 117 (fq::CM::(4,Pi.P.d (IM (ir (f (LI x)))))::Zcc x::Zcd x::Z2N) [Dq g o na np nh nl,pA g,py o,pr f c,xW A,xV P,xU d n,(7,mX H),(8,mX L),(9,Cx x)]=AS 117 (fq::CM::Zca on::Zcc h::Zcd h::Z2N) [Dq U bC lK lL lM uz,pA U,py bC,pr Iz ft,xW Dr,xV Ds,xU B kO,(7,mX Dt),(8,mX Sc),(9,Cx h)]/\(CN t lK lL lM uz Dr Ds Dt Sc/\lN B e/\Ad N t/\N<=300000000/\Dk h<=200/\ ∀y,y∈au.ops h->J (bq.cV y)<=200)/\ ∀d' n' uP uQ uR iH A' P' H' L',CN (YW on (au.s h) (au.ops h) t) uP uQ uR iH A' P' H' L'->lN d' (List.foldl sR e (au.ops h))->E (Z3i,(0,AC 0 (Z 0) (H1 (74:I) [El U,Iw bC,kP,Jc uP,Pi.P.sl 6 0 uQ,Pi.P.mp 4 0,Pi.P.sl 7 0 uR,Pi.P.sl 8 0 iH]))::pA U::py bC::pr Iz ft::(4,AC 0 (Z 6) (qw d' n'))::(5,vU A')::(6,Ix P')::ZcI H' L')))=(fK [] [] [(3,ah (aV 45 3) qow)] 45 [.ref 0 0 0,.d (dp x)] (qox g o f c d n na np nh nl A P H L)) E:=by kernel_rfl
theorem fy{n m b}{l:List D}{z:D}(h:n=m)(hl:J l=m)(U:m<=1000000000000)(B:b<=100):(gr n (J l)&&aB (n+J [z]) b)=O:=by rw[zac];refine⟨by rw[zca];omega,bP (zaJ (Nat.mul_le_mul (by grind:n+J [z]<=1000000000001) B) (by omega)) (by grind)⟩
theorem CN.go{t na np nh nl A P H L}(h:CN t na np nh nl A P H L){on s y}{k:Nat}{i}(hi:(k:Int)=i){B U}(hg:R7 on y nl L B U):
  (nS on y=O->v8 on y=O->CN (tlO on s t y k) (na+1) (np+1) (nh+1) B (ab na A++[aF (s.1,s.2,i)]) (ab np P++[bI (Cr y)]) (ab nh H++[eK (y.node,s)]) U)/\
  (nS on y=O->v8 on y=C->CN (tlO on s t y k) (na+1) (np+1) nh B (ab na A++[aF (s.1,s.2,i)]) (ab np P++[bI (Cr y)]) H U)/\
  (nS on y=C->v8 on y=O->CN (tlO on s t y k) na np (nh+1) B A P (ab nh H++[eK (y.node,s)]) U)/\
  (nS on y=C->v8 on y=C->CN (tlO on s t y k) na np nh B A P H U):=by
 obtain⟨rfl,rfl,rfl,rfl,rfl,rfl,rfl,rfl⟩:=h;obtain⟨rfl,rfl⟩:=hg;subst hi;have hl:t.g.map eK++(if on=O then(R6 y).map eK else [])=(if on=O then t.g++y.cV.map (λd=>(y.node,d)) else t.g).map eK:=by grind [R6]
 have t1:ab (J t.a) (t.a.map aF)=t.a.map aF:=zak (by simp);have t2:ab (J t.p) (t.p.map bI)=t.p.map bI:=zak (by simp);have t3:ab (J t.h) (t.h.map eK)=t.h.map eK:=zak (by simp);rw[t1,t2,t3,hl];refine⟨λh1 h2=> ?_,λh1 h2=> ?_,λh1 h2=> ?_,λh1 h2=> ?_⟩<;>(unfold tlO;rw[h1,h2];constructor<;>simp)
theorem qj6 a b:OF (aF a) (aF b)=(a==b):=by rw[zbf,D.bU,zbV];grind [qgV]
theorem lN.mk{d e}(h:lN d e){y}(hk:y.kind=0):lN (λB=>bif OF (aF y.node) B then Z (.bool y.dir) else d B) (sR e y):=λz=>by unfold sR;show(bif OF (aF y.node) (aF z) then Z (IM y.dir) else d (aF z))=_;rw[qj6,h z];grind
theorem lN.no{d e}(h:lN d e){y}(hk: ¬y.kind=0):lN d (sR e y):=λz=>by unfold sR;rw[h z,zat (λB=>hk B.1)]
structure GaP where
 x:au
 y:bq
 g:List au
 o:List aN
 f:D->Option D
 c:Int
 d:D->Option D
 n:Int
 na:Nat
 np:Nat
 nh:Nat
 A:List D
 P:List D
 H:List D
 on:Bool
 i:Int
 L:List D
abbrev GaB:=(D->Option D)×Int×Nat×Nat×Nat×Nat×List D×List D×List D×List D
structure GaQ where
 x:au
 g:List au
 o:List aN
 f:D->Option D
 c:Int
 on:Bool
 t:Tl
 N:Nat
 e:ak->Option Bool
section
variable{X:XF}{w0:World}(hX:b7 PR w0 X.cf)
include hX
theorem qj7:LN w0 45 13 (ah (aV 45 13) qgW):=LN.qou hX [4,5,7,8] (by rfl) .nil .nil .nil
 (A:=GaP) (B:=Nat×List D) (λa b j=>qj4 a.x a.y a.g a.o a.f a.c a.d a.n a.na a.np a.nh b.1 a.A a.P a.H b.2 a.on a.i j) (λa=>J a.y.cV)
 (λa k b=>(J a.y.cV<=200/\J a.L<=100000000000)/\b.1=J b.2/\b.2=a.L++(if a.on=O then(a.y.cV.take k).map (λs=>eK (a.y.node,s)) else []))
 (λa x=> ∃iH L',R7 a.on a.y (J a.L) a.L iH L'/\x=(.exit 2,gaH a.x a.g a.o a.f a.c a.d a.n a.na a.np a.nh iH a.A a.P a.H L' a.on a.i))
 (by
  rintro a ⟨nl,L⟩ j E h0 J0 Nn ⟨⟨hd,hL⟩,AY,U⟩ hn ho;dsimp only at*
  (rw[<-qj5];delta qR qf qg qS uv nC oF Cx Zj Zl zt Zcd Zcc iF Zca CM cp fq Zcr Jc kP gX Iw El Dq Z8k DZ D0 D1 Jk LJ Jl LK LL Fs Jm Jn Jo Jp Jq Cf Cg Ch D2 Zcp Zcq mX qw xU Ix xV vU xW pr wj py ia pA Zz ZA Pa Zcb Zce Z8 Z7 Zv Zs Zc7 Zc8 Dg)
  have e1:CE (a.y.cV.map bX) j.toNat=bX a.y.cV[j.toNat]:=aA _ _ _ Nn;have uN:(a.y.cV.take (j.toNat+1))=a.y.cV.take j.toNat++[a.y.cV[j.toNat]]:=zah Nn;rw[e1];generalize a.y.cV[j.toNat]=z at*
  have hLl:J L<=J a.L+200:=by grind
  have hjm:j<(J (a.y.cV.map bX):Int):=by rw[zaa];exact J0
  refine dv hjm (ar ⟨h0,hjm⟩ (ao (ph _) (az (λhon=>ao (fy AY rfl (by omega) (by decide)) (ar (by omega) (hn (nl+1,ab nl L++[eK (a.y.node,z)]) _ rfl ⟨⟨hd,hL⟩,?_,?_⟩))) λqtx=>ar (by omega) (hn (nl,L) _ rfl ⟨⟨hd,hL⟩,AY,?_⟩))))
  ·simp[AY]
  ·rw[hon,zau rfl] at U⊢;rw[uN,AY,zan,U,zaC,zaW];rfl
  grind)
 (by rintro a ⟨nl,L⟩ j E hj ⟨⟨hd,hL⟩,AY,U⟩ ho;refine Cj (by grind) (ho _ (λh=>by cases h) ⟨nl,L,⟨AY,?_⟩,rfl⟩);grind [R6,Function.comp_def])
 (by rintro s E ⟨x,y,g,o,f,c,d,n,na,np,nh,nl,A,P,H,L,on,i,hs,⟨h1,h2,h3⟩,hp⟩;refine⟨⟨x,y,g,o,f,c,d,n,na,np,nh,A,P,H,on,i,L⟩,(nl,L),hs,⟨⟨h1,by rw[<-h2];exact h3⟩,h2,by simp⟩,?_⟩;grind)
theorem qoy:LN w0 45 3 (ah (aV 45 3) qow):=LN.qou hX [4,5,7,8] (by rfl) .nil .nil (.cons (qj7 hX) .nil)
 (A:=GaQ) (B:=GaB) (λa b i=>gaH a.x a.g a.o a.f a.c b.1 b.2.1 b.2.2.1 b.2.2.2.1 b.2.2.2.2.1 b.2.2.2.2.2.1 b.2.2.2.2.2.2.1 b.2.2.2.2.2.2.2.1 b.2.2.2.2.2.2.2.2.1 b.2.2.2.2.2.2.2.2.2 a.on i) (λa=>J a.x.ops)
 (λa k b=>(Ad a.N a.t/\a.N<=300000000/\J a.x.ops<=200/\ ∀y∈a.x.ops,J y.cV<=200)/\CN (YW a.on a.x.s (a.x.ops.take k) a.t) b.2.2.1 b.2.2.2.1 b.2.2.2.2.1 b.2.2.2.2.2.1 b.2.2.2.2.2.2.1 b.2.2.2.2.2.2.2.1 b.2.2.2.2.2.2.2.2.1 b.2.2.2.2.2.2.2.2.2/\lN b.1 ((a.x.ops.take k).foldl sR a.e))
 (λa x=> ∃d' n' uP uQ uR iH A' P' H' L',CN (YW a.on a.x.s a.x.ops a.t) uP uQ uR iH A' P' H' L'/\lN d' (a.x.ops.foldl sR a.e)/\x=(.exit 0,gaE a.g a.o a.f a.c d' n' uP uQ uR iH A' P' H' L'))
 (by
  rintro⟨x,g,o,f,c,on,t,N,e⟩ ⟨d,n,na,np,nh,nl,A,P,H,L⟩ i E h0 dE bB ⟨hc,hR,hD⟩ hn ho;dsimp only at*
  (rw[<-qgX];delta mX ZcI cp fq Z2L qw xU Zcr Jc kP gX Iw El Dq Ix xV vU xW nC oF Zs lJ Z8v Z8u Z8t Zcv Zcz ZcH Z8E Z8D Z8C Z8B Z8A Z8z Z8y Z8x Z8w Aj qR qf qg qS uv Cx Iy Zcu Zj Zk Zct ZcG ZcF k7 B1 Na OT R8 R9 Sb pr wj py ia pA ZcA Z5 Zl zt Zcd Zcc Zcb iF Zca CM y9 Zz ZA Z8 Z7 Zv Z8k DZ D0 D1 Jk LJ Jl LK LL Fs Jm Jn Jo Jp Jq Cf Cg Ch D2 Zcp Zcq Pa za Dg Zcw Z4 Z8o)
  have U:=(hc.1.ops (on:=on) (s:=x.s) hc.2.2.2 i.toNat (by omega)).mono (m:=300000200) (by omega);have e1:CE (x.ops.map eX) i.toNat=eX x.ops[i.toNat]:=aA _ _ _ bB;have y7:=LX (on:=on) (s:=x.s) (t:=t) bB;have UI:(x.ops.take (i.toNat+1)).foldl sR e=sR ((x.ops.take i.toNat).foldl sR e) x.ops[i.toNat]:=by rw[zah bB,zbZ];rfl
  have wu:=hc.2.2.2 _ (zay bB);have hi2:((i.toNat:Nat):Int)=i:=by omega
  rw[e1];generalize x.ops[i.toNat]=y at y7 UI wu⊢;generalize YW on x.s (x.ops.take i.toNat) t=t1 at y7 hR U;generalize (x.ops.take i.toNat).foldl sR e=e2 at UI hD;have u0:AM (xz (eX y) 0)=y.kind:=rfl;have r6:=D3 y;simp only[u0];have jN:i<(J (x.ops.map eX):Int):=by rw[zaa];exact dE
  refine dv jN (ar ⟨h0,jN⟩ (ao r6 ?_));clear e1 r6;by_cases ix:y.kind=0
  ·rw[show(y.kind==0)=O by simp[ix],show(y.kind==1)=C by simp[ix],show(y.kind !=2)=O by simp[ix]];cases on with
   |true=>simp only[zcA,zbE];exact ao (fy hR.na (by rw[hR.a,zaa]) (by have:=U.2.1;omega) (by decide)) (ao (fy hR.np (by rw[hR.p,zaa]) (by have:=U.1;have:=U.2.1;omega) (by decide)) (ao (fy hR.nh (by rw[hR.h,zaa]) (by have:=U.2.2.1;omega) (by decide)) (⟨x,y,g,o,f,c,(λk'=>bif OF (aF y.node) k' then Z (.bool y.dir) else d k'),(bif (d (aF y.node)).isSome then n else n+1),na+1,np+1,nh+1,nl,ab na A++[aF (x.s.1,x.s.2,i)],ab np P++[bI (Cr y)],ab nh H++[eK (y.node,x.s)],L,O,i,rfl,⟨wu,hR.nl.trans (by rw[hR.l,zaa]),by have:=hR.nl;have:=U.2.2.2;omega⟩,λiH L' oG=>ar (by omega) (hn ((λk'=>bif OF (aF y.node) k' then Z (.bool y.dir) else d k'),(bif (d (aF y.node)).isSome then n else n+1),na+1,np+1,nh+1,iH,ab na A++[aF (x.s.1,x.s.2,i)],ab np P++[bI (Cr y)],ab nh H++[eK (y.node,x.s)],L') _ rfl ⟨hc,by rw[y7];exact(hR.go hi2 oG).1 (by simp[nS,ix]) (by simp[v8,ix]),by rw[UI];exact hD.mk ix⟩)⟩)))
   |false=>simp only[zcA,zbE];exact ao (fy hR.na (by rw[hR.a,zaa]) (by have:=U.2.1;omega) (by decide)) (ao (fy hR.np (by rw[hR.p,zaa]) (by have:=U.1;have:=U.2.1;omega) (by decide)) (⟨x,y,g,o,f,c,(λk'=>bif OF (aF y.node) k' then Z (.bool y.dir) else d k'),(bif (d (aF y.node)).isSome then n else n+1),na+1,np+1,nh,nl,ab na A++[aF (x.s.1,x.s.2,i)],ab np P++[bI (Cr y)],H,L,C,i,rfl,⟨wu,hR.nl.trans (by rw[hR.l,zaa]),by have:=hR.nl;have:=U.2.2.2;omega⟩,λiH L' oG=>ar (by omega) (hn ((λk'=>bif OF (aF y.node) k' then Z (.bool y.dir) else d k'),(bif (d (aF y.node)).isSome then n else n+1),na+1,np+1,nh,iH,ab na A++[aF (x.s.1,x.s.2,i)],ab np P++[bI (Cr y)],H,L') _ rfl ⟨hc,by rw[y7];exact(hR.go hi2 oG).2.1 (by simp[nS,ix]) (by rfl),by rw[UI];exact hD.mk ix⟩)⟩))
  by_cases C6:y.kind=1
  ·rw[show(y.kind==0)=C by simp[ix],show(y.kind==1)=O by simp[C6],show(y.kind !=2)=O by simp[C6]];cases on with
   |true=>simp only[zcA,zbE];exact ao (fy hR.na (by rw[hR.a,zaa]) (by have:=U.2.1;omega) (by decide)) (ao (fy hR.np (by rw[hR.p,zaa]) (by have:=U.1;have:=U.2.1;omega) (by decide)) (ao (fy hR.nh (by rw[hR.h,zaa]) (by have:=U.2.2.1;omega) (by decide)) (⟨x,y,g,o,f,c,d,n,na+1,np+1,nh+1,nl,ab na A++[aF (x.s.1,x.s.2,i)],ab np P++[bI (Cr y)],ab nh H++[eK (y.node,x.s)],L,O,i,rfl,⟨wu,hR.nl.trans (by rw[hR.l,zaa]),by have:=hR.nl;have:=U.2.2.2;omega⟩,λiH L' oG=>ar (by omega) (hn (d,n,na+1,np+1,nh+1,iH,ab na A++[aF (x.s.1,x.s.2,i)],ab np P++[bI (Cr y)],ab nh H++[eK (y.node,x.s)],L') _ rfl ⟨hc,by rw[y7];exact(hR.go hi2 oG).1 (by simp[nS,C6]) (by simp[v8,C6]),by rw[UI];exact hD.no ix⟩)⟩)))
   |false=>simp only[zcA,zbE];exact⟨x,y,g,o,f,c,d,n,na,np,nh,nl,A,P,H,L,C,i,rfl,⟨wu,hR.nl.trans (by rw[hR.l,zaa]),by have:=hR.nl;have:=U.2.2.2;omega⟩,λiH L' oG=>ar (by omega) (hn (d,n,na,np,nh,iH,A,P,H,L') _ rfl ⟨hc,by rw[y7];exact(hR.go hi2 oG).2.2.2 (by simp[nS,C6]) (by rfl),by rw[UI];exact hD.no ix⟩)⟩
  by_cases uK:y.kind=2
  ·rw[show(y.kind==0)=C by simp[ix],show(y.kind==1)=C by simp[C6],show(y.kind !=2)=C by simp[uK]];cases on with
   |true=>simp only[zbE];exact⟨x,y,g,o,f,c,d,n,na,np,nh,nl,A,P,H,L,O,i,rfl,⟨wu,hR.nl.trans (by rw[hR.l,zaa]),by have:=hR.nl;have:=U.2.2.2;omega⟩,λiH L' oG=>ar (by omega) (hn (d,n,na,np,nh,iH,A,P,H,L') _ rfl ⟨hc,by rw[y7];exact(hR.go hi2 oG).2.2.2 (by simp[nS,uK]) (by simp[v8,uK]),by rw[UI];exact hD.no ix⟩)⟩
   |false=>simp only[zbE];exact⟨x,y,g,o,f,c,d,n,na,np,nh,nl,A,P,H,L,C,i,rfl,⟨wu,hR.nl.trans (by rw[hR.l,zaa]),by have:=hR.nl;have:=U.2.2.2;omega⟩,λiH L' oG=>ar (by omega) (hn (d,n,na,np,nh,iH,A,P,H,L') _ rfl ⟨hc,by rw[y7];exact(hR.go hi2 oG).2.2.2 (by simp[nS,uK]) (by rfl),by rw[UI];exact hD.no ix⟩)⟩
  rw[show(y.kind==0)=C by simp[ix],show(y.kind==1)=C by simp[C6],show(y.kind !=2)=O by simp[uK]];cases on with
  |true=>simp only[zbE];exact ao (fy hR.nh (by rw[hR.h,zaa]) (by have:=U.2.2.1;omega) (by decide)) (⟨x,y,g,o,f,c,d,n,na,np,nh+1,nl,A,P,ab nh H++[eK (y.node,x.s)],L,O,i,rfl,⟨wu,hR.nl.trans (by rw[hR.l,zaa]),by have:=hR.nl;have:=U.2.2.2;omega⟩,λiH L' oG=>ar (by omega) (hn (d,n,na,np,nh+1,iH,A,P,ab nh H++[eK (y.node,x.s)],L') _ rfl ⟨hc,by rw[y7];exact(hR.go hi2 oG).2.2.1 (by simp[nS,ix,C6]) (by simp[v8,uK]),by rw[UI];exact hD.no ix⟩)⟩)
  |false=>simp only[zbE];exact⟨x,y,g,o,f,c,d,n,na,np,nh,nl,A,P,H,L,C,i,rfl,⟨wu,hR.nl.trans (by rw[hR.l,zaa]),by have:=hR.nl;have:=U.2.2.2;omega⟩,λiH L' oG=>ar (by omega) (hn (d,n,na,np,nh,iH,A,P,H,L') _ rfl ⟨hc,by rw[y7];exact(hR.go hi2 oG).2.2.2 (by simp[nS,ix]) (by rfl),by rw[UI];exact hD.no ix⟩)⟩)
 (by
  rintro⟨x,g,o,f,c,on,t,N,e⟩ ⟨d,n,na,np,nh,nl,A,P,H,L⟩ i E hi ⟨hc,hR,hD⟩ ho;dsimp only at*
  (rw[<-qgX];delta mX ZcI cp fq Z2L qw xU Zcr Jc kP gX Iw El Dq Ix xV vU xW nC oF Zs lJ Z8v Z8u Z8t Zcv Zcz ZcH Z8E Z8D Z8C Z8B Z8A Z8z Z8y Z8x Z8w Aj qR qf qg qS uv Cx Iy Zcu Zj Zk Zct ZcG ZcF k7 B1 Na OT R8 R9 Sb pr wj py ia pA ZcA Z5 Zl zt Zcd Zcc Zcb iF Zca CM y9 Zz ZA Z8 Z7 Zv Z8k DZ D0 D1 Jk LJ Jl LK LL Fs Jm Jn Jo Jp Jq Cf Cg Ch D2 Zcp Zcq Pa za Dg Zcw Z4 Z8o)
  rw[zan] at hR hD;exact Cj (by simp only[zaa];omega) (ho _ (λh=>by cases h) ⟨d,n,na,np,nh,nl,A,P,H,L,hR,hD,rfl⟩))
 (by rintro s E ⟨x,g,o,f,c,d,n,na,np,nh,nl,A,P,H,L,on,t,N,e,hs,⟨h1,h2,h3⟩,hp⟩;refine⟨⟨x,g,o,f,c,on,t,N,e⟩,(d,n,na,np,nh,nl,A,P,H,L),hs,⟨h3,h1,h2⟩,?_⟩;grind)
end
def CO(f:D->Option D)(o:List aN):= ∀s,f (bX s)=if s∈o then Z (.agg []) else Y
abbrev vwG(g:List au)(o:List aN)(f:D->Option D)(c:Int)(d:D->Option D)(n:Int)(na np nh nl:Nat)(A P H L:List D):List (Nat×En):=[(0,⟨0,Z 0,.box 74 [.sl 1 0 (J g),.sl 2 0 (J o),.mp 3 0,.sl 5 0 na,.sl 6 0 np,.mp 4 0,.sl 7 0 nh,.sl 8 0 nl]⟩),(1,⟨0,Z 1,xR C g⟩),(2,⟨0,Z 2,qT C o⟩),(3,⟨0,Z 3,onM f c⟩),(4,⟨0,Z 6,qe6 d n⟩),(5,⟨0,Y,.arr 49 C A⟩),(6,⟨0,Y,.arr 108 C P⟩),(7,⟨0,Y,.arr 121 C H⟩),(8,⟨0,Y,.arr 121 C L⟩)]
def qoz:bc:=λps R E=> ∃x g o f c d n na np nh nl A P H L t N e,ps=[.ref 0 0 0,.d (dp x)]/\R=qox g o f c d n na np nh nl A P H L/\(CO f o/\CN t na np nh nl A P H L/\lN d e/\Ad N t/\N<=300000000/\J x.ops<=200/\ ∀y∈x.ops,J y.cV<=200)/\
 ∀d' n' U B h iH A' P' H' L',CN (Uo o t x) U B h iH A' P' H' L'->lN d' (x.ops.foldl sR e)->E (.cy [],vwG g o f c d' n' U B h iH A' P' H' L')
abbrev vwL(g:List au)(o:List aN)(f:D->Option D)(c:Int)(d:D->Option D)(n:Int)(na np nh nl:Nat)(A P H L:List D):List (Nat×En):=[(0,⟨0,Y,vwB (J g) (J o) na np nh nl⟩),(1,⟨0,Y,xR C g⟩),(2,⟨0,Y,qT C o⟩),(3,⟨0,Y,onM f c⟩),(4,⟨0,Y,.arr 49 C A⟩),(5,⟨0,Y,.arr 108 C P⟩),(6,⟨0,Y,qe6 d n⟩),(7,⟨0,Y,.arr 121 C H⟩),(8,⟨0,Y,.arr 121 C L⟩)]
abbrev noD:D->Option D:=λ_=>Y
abbrev vw0 g o f c:=vwL g o f c noD 0 0 0 0 0 [] [] [] []
abbrev vo5(l g:List au)(h:List Hd)(f:D->Option D)(c:Int)(i:Int):S:=⟨98,[(3,.ref 0 0 0),(4,.mp 9 0),(5,.sl 10 0 (J h)),(6,.sl 11 0 (J h)),(20,ey l),(21,iD (J (l.map dp):Int)),(22,iD i)],vw0 g [] noD 0++[(9,⟨0,Y,mpS f c⟩),(10,⟨0,Y,qT C (h.map (·.2))⟩),(11,⟨0,Y,qT C (h.map (·.1))⟩)]⟩
abbrev qoA(g:List au)(h:List Hd):S:=⟨98,[(3,.ref 0 0 0),(5,.sl 9 0 (J h)),(6,.sl 10 0 (J h))],vw0 g [] noD 0++[(9,⟨0,Y,qT C (h.map (·.2))⟩),(10,⟨0,Y,qT C (h.map (·.1))⟩)]⟩
def ZcZ h:=AC 0 Y (Cs (27:I) C (Cz h))
def ZcY h:=AC 0 Y (Cs (27:I) C (Jv h))
def Zd4 g l i:=AC 0 Y (Cs (31:I) C (ab (J g) (ia g)++[Z9h l i]))
def ZcM:=[kP,IH 4 0 0,zY,P.mp 6 0,IH 7 0 0,IH 8 0 0]
def ZcN:=IH 2 0 0::ZcM
def ZcK l i:=[(20,jf l),(21,Do (we GE (↑(kH l):Int))),(22,ZA i)]
def ZcJ:=(4,P.mp 9 0)
def Zd2 l i:=BC [Ma l i,we GE (AM (xz (su l i) k7))]
def Zd3 l i f c:=(9,AC 0 Y (If 27 (λh=>bif OF (Zd2 l i) h then Z (we GE (AM (aK (f (Zd2 l i)) Z5)+(1:Int))) else aW (Zd2 l i) (aK (f (Zd2 l i)) Z5) f h) (bif ir (f (Mb l i)) then c else c+(1:Int)) C))
def Zd1 l i f:=aK (aW (Mb l i) (we GE (AM (aK (f (Mb l i)) Z5)+(1:Int))) (aW (Mb l i) (aK (f (Mb l i)) Z5) f) (Mb l i)) Z5
def Zd0 h:=[(10,ZcY h),(11,ZcZ h)]
def Sd:=AC 0 Y (Cs (121:I) C [])
def ZcX:=(8,Sd)
def ZcW:=(7,Sd)
def ZcU:=(6,Dd)
def ZcT:=(5,Dj)
def ZcS:=(4,xH)
def ZcR:=(3,Z9K)
def zw:=(2,Jy)
def Vz g:=(1,Vs g)
def ZcO g:=(0,AC 0 Y (H1 (74:I) (El g::ZcN)))
def ZcL h l i:=eN::ZcJ::(5,IH 10 0 (jg h))::(6,IH 11 0 (jg h))::ZcK l i
theorem qoB l g h f c i E:(bif Ju i l then ob (tB i l) (ob (nV l i) (∃B,[Do (Z9h l i)]=[qK B]/\Zn/\Uw B/\ ∀e,(e=if fu B=O then(0:Int) else(80:Int))->bif e !=(0:Int) then ob (Zv i) (E (AD,AS 98 (ZcL h l i) (ZcO g::Vz g::zw::ZcR::ZcS::ZcT::ZcU::ZcW::ZcX::(9,AC 0 Y (If 27 f c C))::Zd0 h))) else ob (bE PR (3:I) (aK (f (Mb l i)) Z5)) (ob (decide (Z7<=AM (aK (f (Mb l i)) Z5)+(1:Int)/\AM (aK (f (Mb l i)) Z5)+(1:Int)<=Z8)) (ob (bE PR (3:I) (Zd1 l i f)) (bif decide (AM (Zd1 l i f)>(1:Int)) then ob (Zv i) (E (AD,AS 98 (ZcL h l i) (ZcO g::Vz g::zw::ZcR::ZcS::ZcT::ZcU::ZcW::ZcX::Zd3 l i f c::Zd0 h))) else ob (gr (J g) (kH g)&&aB (Z9i g l i) 88) (ob (gr (jg h) (J (Cz h))&&aB (jg h+J [Mb l i]) 16) (ob (gr (jg h) (J (Jv h))&&aB (jg h+J [BC (Za4 l i)]) 16) (ob (Zv i) (E (AD,AS 98 (eN::ZcJ::(5,IH 10 0 (jg h+J [BC (Za4 l i)]))::(6,IH 11 0 (jg h+J [Mb l i]))::ZcK l i) [(0,AC 0 Y (H1 (74:I) (IH 1 0 (Z9i g l i)::ZcN))),(1,Zd4 g l i),zw,ZcR,ZcS,ZcT,ZcU,ZcW,ZcX,Zd3 l i f c,(10,AC 0 Y (Cs (27:I) C (ab (jg h) (Jv h)++[BC (Za4 l i)]))),(11,AC 0 Y (Cs (27:I) C (ab (jg h) (Cz h)++[Mb l i])))])))))))))) else E (DD 0,AS 98 [eN,(5,IH 9 0 (jg h)),(6,IH 10 0 (jg h))] [ZcO g,Vz g,zw,ZcR,ZcS,ZcT,ZcU,ZcW,ZcX,(9,ZcY h),(10,ZcZ h)]))=(bV [(43,qno)] [] [] 24 5 (vo5 l g h f c i)) E:=by kernel_rfl
def qoC:S->K (PX×S):=λs E=> ∃l,s=vo5 l [] [] noD 0 0/\FI l/\ ∀g h,g=aC l->h=g.map k8->E (.exit 0,qoA g h)
abbrev qj8(g:List au)(o:List aN)(f:D->Option D)(c:Int)(i:Int):S:=⟨98,[(3,.ref 0 0 0),(71,.sl 2 0 (J o)),(72,iD (J o:Int)),(73,iD i)],vw0 g o f c⟩
def Zd7:=[ZcS,ZcT,ZcU,ZcW,ZcX]
def Zd5 g o:=(0,AC 0 Y (H1 (74:I) (El g::Iw o::ZcM)))
def Zd8 g o f c:=Zd5 g o::Vz g::(2,Eh o)::(3,AC 0 Y (If 27 f c C))::Zd7
def Zd6 o i:=BC [we GE (AM (xz (CE (aa bX o) (Zs i)) 0)),we GE (AM (xz (CE (aa bX o) (Zs i)) k7))]
theorem qa1 g o f c i E:(bif Zba i o then ob (decide ((0:Int)<=i/\i<(↑(gX o):Int))) (ob (ZaP i o) (ob (H3 o i) (ob (Zv i) (E (AD,AS 98 [eN,(71,Iw o),(72,Do (we GE (↑(gX o):Int))),(73,ZA i)] (Zd5 g o::Vz g::(2,Eh o)::(3,AC 0 Y (If 27 (λh=>bif OF (Zd6 o i) h then Z jh else f h) (bif ir (f (BC (LM o i))) then c else c+(1:Int)) C))::Zd7)))))) else E (DD 2,AS 98 RA (Zd8 g o f c)))=(bV [] [] [] 24 15 (qj8 g o f c i)) E:=by kernel_rfl
def qgY:S->K (PX×S):=λs E=> ∃g o,s=qj8 g o noD 0 0/\J o<=1000000/\ ∀f c,CO f o->E (.exit 2,⟨98,[(3,.ref 0 0 0)],vw0 g o f c⟩)
abbrev qj9(g:List au)(o:List aN)(f:D->Option D)(c:Int)(d:D->Option D)(n:Int)(na np nh nl:Nat)(A P H L:List D)(i:Int):S:=⟨98,[(3,.ref 0 0 0),(87,.sl 1 0 (J g)),(88,iD (J g:Int)),(89,iD i)],vwL g o f c d n na np nh nl A P H L⟩
def Zda h B uP uQ U iH Iz ft A' P' d' n' H' L':=(0,AC 0 Y (H1 (74:I) (El h::Iw B::kP::IH 4 0 uP::Jc uQ::Zcr U iH)))::Vz h::(2,Eh B)::(3,AC 0 Y (If 27 Iz ft C))::xW A'::xV P'::(6,I6 d' n')::ZcI H' L'
def Zd9 B U lK lL lM uz Iz ft Dr Ds h kO Dt Sc:=[Dq B U lK lL lM uz,pA B,py U,pr Iz ft,(4,AC 0 (Z 4) (Cs (49:I) C Dr)),(5,AC 0 (Z 5) (Cs (108:I) C Ds)),xU h kO,(7,AC 0 (Z 7) (Cs (121:I) C Dt)),(8,AC 0 (Z 8) (Cs (121:I) C Sc))]
theorem qka g o f c d n na np nh nl A P H L i E:(bif decide (i<wg g) then ob (Vr i g) (ob (Vq i g) (ob (nV g i) (∃x bJ B U ft h kO lK lL lM uz Dr Ds Dt Sc t N e,[cp,Pi.P.d (Z9h g i)]=[cp,qK x]/\Zd9 g o na np nh nl f c A P d n H L=Zd9 bJ B lK lL lM uz U ft Dr Ds h kO Dt Sc/\(CO U B/\CN t lK lL lM uz Dr Ds Dt Sc/\lN h e/\Ad N t/\N<=300000000/\Dk x<=200/\ ∀y,y∈au.ops x->J (bq.cV y)<=200)/\ ∀d' n' uP uQ uR iH A' P' H' L',CN (Uo B t x) uP uQ uR iH A' P' H' L'->lN d' (List.foldl sR e (au.ops x))->ob (Zv i) (E (AD,AS 98 [eN,(87,El g),(88,Pi.P.d (we GE (wg g))),(89,ZA i)] (Zda bJ B uP uQ uR iH U ft A' P' d' n' H' L')))))) else E (DD 4,AS 98 RA (Zda g o na np nh nl f c A P d n H L)))=(bV [] [(45,qoz)] [] 24 20 (qj9 g o f c d n na np nh nl A P H L i)) E:=by kernel_rfl
def ql(g:List au):=(g.flatMap (·.ops)).foldl sR (λ_=>Y)
def qgZ:S->K (PX×S):=λs E=> ∃g o f c,s=qj9 g o f c noD 0 0 0 0 0 [] [] [] [] 0/\(CO f o/\J g<=1000000/\ ∀x∈g,fu x=O)/\ ∀d n na np nh nl A P H L,CN (pk o g) na np nh nl A P H L->lN d (ql g)->E (.exit 4,⟨98,[(3,.ref 0 0 0)],vwL g o f c d n na np nh nl A P H L⟩)
def Zdd g o B h:=AS 98 [eN,(87,El g),(88,Do (we GE (wg g))),(89,Do Z5)] (Zd8 g o B h)
def Zdc h B:=AS 98 [eN,(71,Iw h),(72,Do (we GE (↑(gX h):Int))),(73,Do Z5)] (Zd5 B h::Vz B::(2,Eh h)::ZcR::Zd7)
def Zdb h:=AS 98 [eN,ZcJ,(5,IH 10 0 0),(6,IH 11 0 0),(20,jf h),(21,Do (we GE (↑(kH h):Int))),(22,Do Z5)] [(0,AC 0 Y (H1 (74:I) (Af::ZcN))),(1,Z9o),zw,ZcR,ZcS,ZcT,ZcU,ZcW,ZcX,(9,Z9K),(10,Jy),(11,Jy)]
theorem qsr l E:(∃U,Zdb l=Zdb U/\FI U/\ ∀g h,g=aC U->h=aa k8 g-> ∃l,[Do (IR 2 (ab (jg h) (Cz h))),Do (IR 2 (ab (jg h) (Jv h)))]=ZaT l/\Zn/\FM l/\ ∀o,o=Ni l-> ∃bJ B,Zdc o g=Zdc B bJ/\Iu B/\ ∀f c,CO f B-> ∃g o Iz ft,Zdd bJ B f c=Zdd g o Iz ft/\(CO Iz o/\sv g/\ ∀x,x∈g->fu x=O)/\ ∀d n na np nh nl A P H L,CN (pk o g) na np nh nl A P H L->lN d (ql g)->E (cp,Zda g o na np nh nl Iz ft A P d n H L))=(fK [] [(44,qnV)] [(5,ah (aV 24 5) qoC),(15,ah (aV 24 15) qgY),(20,ah (aV 24 20) qgZ)] 24 [ey l] []) E:=by kernel_rfl
def qkb:bc:=λps R E=> ∃l,ps=[ey l]/\R=[]/\FI l/\ ∀g o f c d n na np nh nl A P H L,g=aC l->o=gJ l->CO f o->CN (pk o g) na np nh nl A P H L->lN d (ql g)->E (.ref 0 0 0,vwL g o f c d n na np nh nl A P H L)
def zx h:=[jf h]
theorem qoD l E:(∃h,zx l=zx h/\Zn/\FI h/\ ∀(g:List au) (o:List aN) (f:D->Option D) (_:Int) (d:D->Option D) (_:Int) (na np nh nl:Nat) (A P H L:List D),g=aC h->o=gJ h->CO f o->CN (pk o g) na np nh nl A P H L->lN d (ql g)->E (wm o,Vx o))=(fK [] [(24,qkb)] [] 13 [ey l] []) E:=by kernel_rfl
def IA:bc:=λps R E=> ∃l,ps=[ey l]/\R=[]/\FI l/\ ∀o,o=gJ l->E (.sl 0 0 (J o),[(0,⟨0,Y,qT C o⟩)])
section
variable{X:XF}
end
theorem IB l:J (gJ l)<=J l:=by have h:=qd9 ((aC l).map k8);have B:=qi l;rw[zaa] at h;unfold gJ;omega
section
variable{X:XF}{w0:World}(hX:b7 PR w0 X.cf)
include hX
end
theorem Se: ∀{l:List au},(∀g∈l,fu g=O)->cK l<=200*J l
 | [],_=>by simp[wa]
 |g::r,h=>by have h1:=Se (l:=r) λx B=>h x (.tail _ B);have U:=L6 (h g (.head _));rw[fF,zav];omega
theorem CO.none:CO noD []:=λs=>by rw[zat (by simp)]
theorem CO.go{f o i}(U:i<J o)(h:CO f (o.take i)):CO (λB=>bif OF (bX o[i]) B then Z (.agg []) else f B) (o.take (i+1)):=λs=>by show(bif OF (bX o[i]) (bX s) then Z (BC []) else f (bX s))=_;rw[qj1,h s,zah U];grind
theorem UJ{g i}(h:i<J g):ql (g.take (i+1))=g[i].ops.foldl sR (ql (g.take i)):=by grind [ql,mi]
theorem isU:bE PR 103 (.agg [])=O:=by rfl
section
variable{X:XF}{w0:World}(hX:b7 PR w0 X.cf)
include hX
theorem qoE:ND w0 45 qoz:=ND.mk hX .nil .nil (.loop (by decide) (qoy hX).T .nil) (by
 intro ps R E hh;obtain⟨x,g,o,f,c,d,n,na,np,nh,nl,A,P,H,L,t,N,e,g1,h,hc,hp⟩:=hh
 (rw[g1,h,<-qsq];delta mX ZcI Ix vU qw Jc kP gX Iw El Z3i Dk iF Zca qR qf qg qS uv nC oF Cx xU xV xW pr wj py ia pA Zcr Dq Z5 Z2N zt Zcd Zcc CM cp fq jh LI)
 have hf:f (BC [we GE x.s.1,we GE x.s.2])=if x.s∈o then Z (.agg []) else Y:=hc.1 x.s
 rw[hf];by_cases hm:x.s∈o
 ·rw[zau hm];exact ao isU ⟨x,g,o,f,c,d,n,na,np,nh,nl,A,P,H,L,O,t,N,e,rfl,hc.2,λd' n' uP U B iH A' P' H' L' g1 h=>hp d' n' uP U B iH A' P' H' L' (by grind [Uo]) h⟩
 rw[zat hm];exact ao isU ⟨x,g,o,f,c,d,n,na,np,nh,nl,A,P,H,L,C,t,N,e,rfl,hc.2,λd' n' uP U B iH A' P' H' L' g1 h=>hp d' n' uP U B iH A' P' H' L' (by grind [Uo]) h⟩)
theorem qoF:LN w0 24 5 (ah (aV 24 5) qoC):=LN.idx hX (by rfl) (.cons qnr .nil) .nil .nil
 (A:=List au) (B:=List au×List aN×Int) (λl b i=>vo5 l b.1 (b.1.map k8) (cM b.2.1) b.2.2 i) (λl=>J l) (λl i b=>FI l/\b.1=aC (l.take i)/\Eb b.2.1 b.1/\J b.2.1<=i)
 (λl x=>x=(.exit 0,qoA (aC l) ((aC l).map k8)))
 (by
  rintro l ⟨o,U,c⟩ i E h0 dE bB ⟨hs,rfl,hU,Jx⟩ hn ho;dsimp only at*
  (rw[<-qoB];delta Cz ZcZ Jv ZcY Zs ia su L9 Ma Z9h Zd4 zY kP ZcM ZcN Zz ZA kH jf ZcK ZcJ cp eN Za4 jg Z9i Mb Z5 k7 Zd2 Zd3 Zd1 Z8 Z7 Zd0 Sd ZcX ZcW M9 Dd ZcU Dj ZcT xH ZcS Z9K ZcR Jy zw Vs Vz El ZcO ZcL Zv Zn qf qg nC oF qK nV tB Ju)
  have e1:CE (l.map dp) i.toNat=dp l[i.toNat]:=aA _ _ _ bB;rw[e1];have hsg:=hs.2 _ (zay bB);have FP:=Mc bB;have uo:=qi (l.take i.toNat);rw[zaG] at uo;generalize l[i.toNat]=g at FP hsg;have xh:=hs.1;have t1:BC [we GE (AM (xz (dp g) 0)),we GE (AM (xz (dp g) 1))]=bX g.s:=rfl;have v1: ∀n:Int,AM (iE n)=n:=λ_=>rfl;have g0:aK (cM U (bX g.s)) (.int GE 0)=iE (U.count g.s:Int):=rU U g.s;have A1:=zbu (a:=g.s) (l:=U);have u2:=λz=>RJ U g.s z;have u3:=λz=>Ih U g.s z;have g1:aK (cM (g.s::U) (bX g.s)) (.int GE 0)= .int GE ((U.count g.s:Int)+1):=by have:=rU (g.s::U) g.s;rw[zb1] at this;exact this
  have M7:(U.count g.s:Int)=0↔ ¬g.s∈U:=by rw[<-zc3];omega
  have hcb:0<=(U.count g.s:Int)/\(U.count g.s:Int)<=1000000:=by omega
  generalize (U.count g.s:Int)=cn at g0 u2 u3 g1 M7 hcb;rw[t1,g0];simp only[v1];have jN:i<(J (l.map dp):Int):=by rw[zaa];exact dE
  refine dv jN (ar ⟨h0,jN⟩ (ao (mS _) ⟨g,rfl,rfl,hsg,λe he=>Lf (λh1=>ar (by omega) (hn (aC (l.take i.toNat),U,c) ⟨hs,?_,hU,Nat.le_succ_of_le Jx⟩)) λh1=> ?_⟩))
  ·rw[FP,qeB];grind
  have hg:fu g=O:=by grind
  refine ao (Md _) (ar (by omega) ?_);rw[u2,g1,u3];refine ao (Md _) ?_;have v2: ∀n:Int,AM (we GE n)=n:=λ_=>rfl;simp only[v2];refine b8 (λh2=>ar (by omega) (hn (aC (l.take i.toNat),g.s::U,_) ⟨hs,?_,hU.had ?_,zb4 Jx⟩)) λh2=> ?_
  ·have hx:g.s∈U:=zbz λh=>by have:=M7.2 h;omega
   rw[FP,qal ((hU g.s).1 hx)]
  ·grind
  have hx: ¬g.s∈U:=M7.1 (by omega);have M8:((aC (l.take i.toNat)).any λx=>x.s==g.s)=C:=by rw[<-zbv,<-hU g.s];exact hx
  have hy:=λc':Int=>hn (aC (l.take i.toNat)++[g],g.s::U,c') ⟨hs,by rw[FP,qam hg M8],hU.new,zb4 Jx⟩;generalize aC (l.take i.toNat)=r at*
  have p0:ab (J r) (r.map dp)++[dp g]=(r++[g]).map dp:=bx dp r g;have p1:ab (J (r.map k8)) (((r.map k8).map λx=>x.1).map bX)++[bX g.s]=(((r++[g]).map k8).map λx=>x.1).map bX:=by rw[zak (by simp)];simp[k8]
  have p2:ab (J (r.map k8)) (((r.map k8).map λx=>x.2).map bX)++[bX g.je]=(((r++[g]).map k8).map λx=>x.2).map bX:=by rw[zak (by simp)];simp[k8]
  have q0:J (r++[g])=J r+1:=by simp
  have q1:J ((r++[g]).map k8)=J (r.map k8)+1:=by simp
  simp only[vo5,vw0,vwL,vwB,xR,qT] at hy;rw[<-p0,<-p1,<-p2,q0,q1] at hy;have hrl:J (r.map k8)<=1000000:=by rw[zaa];omega
  have rm: ∀{α:Type} (f:α->D) (m:List α) (z:D) (b:Nat),J m<=1000000->b<=100->(gr (J m) (J (m.map f))&&aB (J m+J [z]) b)=O:=λf m z b hm hb=>fy rfl (by rw[zaa]) (by omega) hb;have rm1:(gr (J (r.map k8)) (J (((r.map k8).map λx=>x.1).map bX))&&aB (J (r.map k8)+J [bX g.s]) 16)=O:=fy rfl (by simp) (by omega) (by decide);have rm2:(gr (J (r.map k8)) (J (((r.map k8).map λx=>x.2).map bX))&&aB (J (r.map k8)+J [bX g.je]) 16)=O:=fy rfl (by simp) (by omega) (by decide);exact ao (rm dp r _ 88 (by omega) (by decide)) (ao rm1 (ao rm2 (ar (by omega) (hy _)))))
 (by rintro l ⟨o,U,c⟩ i E hi ⟨hs,rfl,hU,Jx⟩ ho;refine Cj (by rw[zaa];omega) (ho _ (λh=>by cases h) ?_);rw[zan];rfl)
 (by rintro s E ⟨l,rfl,hs,hp⟩;refine⟨l,([],[],0),by rw[Ig];rfl,⟨hs,rfl,Eb.nil,by simp⟩,?_⟩;grind)
theorem qkc:LN w0 24 15 (ah (aV 24 15) qgY):=LN.idx hX (by rfl) .nil .nil .nil
 (A:=List au×List aN) (B:=(D->Option D)×Int) (λa b i=>qj8 a.1 a.2 b.1 b.2 i) (λa=>J a.2) (λa i b=>J a.2<=1000000/\CO b.1 (a.2.take i))
 (λa x=> ∃f c,CO f a.2/\x=(.exit 2,⟨98,[(3,.ref 0 0 0)],vw0 a.1 a.2 f c⟩))
 (by
  rintro⟨g,o⟩ ⟨f,c⟩ i E h0 dE bB ⟨h,hO⟩ hn ho
  (rw[<-qa1];delta Sd ZcX ZcW M9 Dd ZcU Dj ZcT xH ZcS Zd7 wj Eh ia Vs Vz zY kP ZcM gX Iw El Zd5 Zd8 cp eN RA Zs LM jh k7 Zd6 Zz ZA Z8 Z7 Zv H3 Ab ZaP Zba)
  have e1:CE (o.map bX) i.toNat=bX o[i.toNat]:=aA _ _ _ bB;have U:=hO.go bB;rw[e1];refine dv dE (ar ⟨h0,dE⟩ (ar (by grind) (ao (ph _) (ar (by omega) (hn (_,_) ⟨h,U⟩))))))
 (by
  rintro⟨g,o⟩ ⟨f,c⟩ i E hi ⟨h,hO⟩ ho
  (rw[<-qa1];delta Sd ZcX ZcW M9 Dd ZcU Dj ZcT xH ZcS Zd7 wj Eh ia Vs Vz zY kP ZcM gX Iw El Zd5 Zd8 cp eN RA Zs LM jh k7 Zd6 Zz ZA Z8 Z7 Zv H3 Ab ZaP Zba)
  grind)
 (by rintro s E ⟨g,o,rfl,h,hp⟩;refine⟨(g,o),(noD,0),rfl,⟨h,CO.none⟩,?_⟩;grind)
theorem qkd:LN w0 24 20 (ah (aV 24 20) qgZ):=LN.idx hX (by rfl) .nil (.cons (qoE hX) .nil) .nil
 (A:=List au×List aN×(D->Option D)×Int) (B:=GaB) (λa b i=>qj9 a.1 a.2.1 a.2.2.1 a.2.2.2 b.1 b.2.1 b.2.2.1 b.2.2.2.1 b.2.2.2.2.1 b.2.2.2.2.2.1 b.2.2.2.2.2.2.1 b.2.2.2.2.2.2.2.1 b.2.2.2.2.2.2.2.2.1 b.2.2.2.2.2.2.2.2.2 i) (λa=>J a.1)
 (λa i b=>(CO a.2.2.1 a.2.1/\J a.1<=1000000/\ ∀x∈a.1,fu x=O)/\CN (pk a.2.1 (a.1.take i)) b.2.2.1 b.2.2.2.1 b.2.2.2.2.1 b.2.2.2.2.2.1 b.2.2.2.2.2.2.1 b.2.2.2.2.2.2.2.1 b.2.2.2.2.2.2.2.2.1 b.2.2.2.2.2.2.2.2.2/\lN b.1 (ql (a.1.take i)))
 (λa x=> ∃d n na np nh nl A P H L,CN (pk a.2.1 a.1) na np nh nl A P H L/\lN d (ql a.1)/\x=(.exit 4,⟨98,[(3,.ref 0 0 0)],vwL a.1 a.2.1 a.2.2.1 a.2.2.2 d n na np nh nl A P H L⟩))
 (by
  rintro⟨g,o,f,c⟩ ⟨d,n,na,np,nh,nl,A,P,H,L⟩ i E h0 dE bB ⟨U,hR,hD⟩ hn ho;dsimp only at*
  (rw[<-qka];delta cp eN RA mX ZcI qw I6 Ix xV vU xW wj Eh ia Vs Vz Zcr Jc kP gX Iw El Zda Zz ZA Z8 Z7 Zv Dk xU pr py pA Dq Zd9 qf qg nC oF qK Zs su L9 Ma Z9h nV kH Vq wg Vr)
  have hB:=YY (on:=o) U.2.2 i.toNat (by omega);have hN:cK (g.take i.toNat)<=300000000:=by have h1:=iX g i.toNat;have h2:=Se U.2.2;omega
  have e1:CE (g.map dp) i.toNat=dp g[i.toNat]:=aA _ _ _ bB;have oS:=U.2.2 _ (zay bB);have y7:=LZ (on:=o) bB;have UI:=UJ bB;rw[e1];generalize g[i.toNat]=x at oS y7 UI⊢;refine dv dE (ar ⟨h0,dE⟩ (ar (by grind) (ao (mS _) ⟨x,g,o,f,c,d,n,na,np,nh,nl,A,P,H,L,_,_,_,rfl,rfl,⟨U.1,hR,hD,hB,hN,L6 oS,L5 oS⟩,λd' n' uP uQ uR iH A' P' H' L' g1 g2=>ar (by omega) (hn (d',n',uP,uQ,uR,iH,A',P',H',L') ⟨U,by rw[y7];exact g1,by rw[UI];exact g2⟩)⟩))))
 (by rintro⟨g,o,f,c⟩ ⟨d,n,na,np,nh,nl,A,P,H,L⟩ i E hi ⟨U,hR,hD⟩ ho;rw[zan] at hR hD;exact Cj (by omega) (ho _ (λh=>by cases h) ⟨d,n,na,np,nh,nl,A,P,H,L,hR,hD,rfl⟩))
 (by rintro s E ⟨g,o,f,c,rfl,U,hp⟩;refine⟨(g,o,f,c),(noD,0,0,0,0,0,[],[],[],[]),rfl,⟨U,⟨rfl,rfl,rfl,rfl,rfl,rfl,rfl,rfl⟩,λz=>rfl⟩,?_⟩;grind)
theorem qg0:ND w0 24 qkb:=ND.mk hX .nil (.cons (qr9 hX) .nil) (.loop (by decide) (qoF hX).T (.loop (by decide) (qkc hX).T (.loop (by decide) (qkd hX).T .nil))) (by
 intro ps R E hh;obtain⟨l,rfl,rfl,hs,hp⟩:=hh
 (rw[<-qsr];delta mX ZcI qw I6 Ix xV vU xW wj Eh ia Vs Vz Zcr Jc kP gX Iw El Zda cp sv Sd ZcX ZcW M9 Dd ZcU Dj ZcT xH ZcS Zd7 zY ZcM Zd5 Zd8 Z5 wg eN Zdd Iu Z9K ZcR Zdc jg FM Zn Jv Cz ZaT Jy zw Z9o ZcN Af kH jf ZcJ Zdb)
 have hl:=hs.1;have h1:=IB l;have h2:=qi l;refine⟨l,rfl,hs,λg h hg hh=> ?_⟩;have U:ab (J h) ((h.map λx=>x.1).map bX)=(h.map λx=>x.1).map bX:=zak (by simp);have B:ab (J h) ((h.map λx=>x.2).map bX)=(h.map λx=>x.2).map bX:=zak (by simp);rw[U,B];refine⟨h,rfl,rfl,by rw[hh,zaa,hg];omega,λo ho=> ?_⟩;grind [gJ,qj])
theorem qoG:ND w0 13 IA:=ND.mk hX .nil (.cons (qg0 hX) .nil) .nil (by
 intro ps R E hh;obtain⟨l,rfl,rfl,h,B⟩:=hh
 (rw[<-qoD];delta wj Eh Vx gX wm Zn ia jf zx)
 exact⟨l,rfl,rfl,h,λg o f c d n na np nh nl A P H L _ U _ _ _=>B o U⟩)
end
abbrev UK(e:List sO):Obj:= .arr 47 C (e.map wP)
def Zds e:=[(0,AC 0 Y (Cs (47:I) C (aa wP e)))]
def Zdr x:=[(10,Z81 x)]
def Zdq V:=(8,AC 0 Y (Cs (121:I) O (bQ.L V)))
def Zdp V:=(7,AC 0 Y (Cs (121:I) O (bQ.H V)))
def Zdo V:=(6,AC 0 Y (Ft V))
def Zdn V:=(5,AC 0 Y (Fu V))
def Zdm V:=(4,AC 0 Y (Fv V))
def Zdl V:=(3,AC 0 Y (Fw V))
def Zdk V:=(1,AC 0 Y (Fx V))
def Zdj V:=(0,AC 0 Y (Vn V))
def Zdh(x:List It):=(13,Do (we GE (↑(J x):Int)))
def Zdi x i:=[(12,IH 10 0 (J x)),Zdh x,(14,ZA i)]
def Zdf x i:=CE (aa fV x) (Zs i)
def Zdg x i:=[BC [GT (Q3 (xz (Zdf x i) 3)),IM (RK (xz (Zdf x i) 4)),nA]]
def Zdv:=IH 9 0 0
def Zdw B h:=AS 40 [eN,(4,Zdv),(12,IH 10 0 (J B)),Zdh B,(14,Do Z5)] (Zdj h::Zdk h::(2,AC 0 Y (Rv h))::Zdl h::Zdm h::Zdn h::Zdo h::Zdp h::Zdq h::(9,AC 0 Y (Cs (47:I) C []))::Zdr B)
def Zdu V l h B:=bQ.A V=Ef l/\bQ.P V=Vv l/\bQ.H V=uO h/\bQ.L V=uO B
theorem qoH x:bE PR 66 (fV x)=O:=by obtain⟨⟨a,b,c⟩,d,e,f⟩:=x;kernel_rfl
section
variable{X:XF}{w0:World}(hX:b7 PR w0 X.cf)
include hX
end
section
variable{X:XF}{w0:World}(hX:b7 PR w0 X.cf)
include hX
end
def UL:au:=⟨(1,1),1,[],(0,0),[⟨0,(1,1,0),(0,0,0),[97],O,[],(0,0,0),(0,0,0),[],[]⟩]⟩
def u1A:au:=⟨(2,1),2,[1],(1,1),[]⟩
def qa2:bc:=λps R E=>(ps=[ey [UL]]/\R=[]/\E (.sl 0 0 1,[(0,⟨0,Y,UK [([47,97],O,[])]⟩)]))\/(ps=[ey [UL,u1A]]/\R=[]/\E (.sl 0 0 0,[(0,⟨0,Y,UK []⟩)]))
def qke:bc:=λps R E=>ps=[ey [UL,u1A]]/\R=[]/\E (.sl 0 0 1,[(0,⟨0,Y,qT C [(2,1)]⟩)])
def mY:bc:=λps R E=>ps=[]/\R=[]/\E (.d (.bool O),[])
def Zdz:=[IR 18 []]
def Zdx:=BC [Zf,Zf,Zf,TQ,Z5,Z5,IR 18 [BC (Z5::Zf::Zf::Z5::Z5::Z5::Z5::GT [(97:UInt8)]::IM O::Uc::YB)]]
def ZdA:=[Do (IR 7 [Zdx,BC (Z4J::Zf::Z4J::IR 1 [Zf]::Zf::Zf::Zdz)])]
def Zdy:=[Do (IR 7 [Zdx])]
theorem qoI E:(Zdy=Zdy/\Zn/\(ZdA=Zdy/\Zn/\Z3 E\/ZdA=ZdA/\Zn/\ZdA=ZdA/\Zn/\ZU E)\/Zdy=ZdA/\Zn/\(ZdA=Zdy/\Zn/\Z3 E\/ZdA=ZdA/\Zn/\Z3 E))=(fK [(11,qa2),(13,qke)] [] [] 8 [] []) E:=by kernel_rfl
section
variable{X:XF}{w0:World}(hX:b7 PR w0 X.cf)
include hX
theorem qoJ(h1:FD X 11 qa2)(U:FD X 13 qke):ND w0 8 mY:=ND.mk hX (.cons h1 (.cons U .nil)) .nil .nil (by
 intro ps R E B;obtain⟨rfl,rfl,h⟩:=B
 (rw[<-qoI];delta ZT ZU Z2 Z3 Zdz Zf Z4J Z5F nA Z5 YB Uc TQ Zdx ZdA Zn Zdy)
 exact .inl ⟨rfl,rfl,.inr ⟨rfl,rfl,rfl,rfl,h⟩⟩)
end
noncomputable def Ap H h hk f id s:=
 w7 (eu PR (runK PR oB qv H 60 60) h hk (qv f) (bA PR f id)) (aV f id) s
noncomputable def PE H h hk f ps R:=
 E5 PR (runK PR oB qv H 60 60) h oB hk qv f ps R
noncomputable def opsOf(f id:Nat):List Oper:=match nP PR f id with | .region _ ops _=>ops.toList |_=>[]
noncomputable def FT H f id i n s:=cu (fN PR) PR (runK PR oB qv H 60 60) [] (opsOf f id) (((opsOf f id).drop i).take n) [] s
def GN w0 (f id:Nat)(g:S->K (PX×S)):= ∀(val:Nat->W) (lo:Nat) (mk:Bool) s E,g s E->TW PR ⟨val,w0,lo,mk⟩ (nP PR f id) s E
inductive VA(w0:World)(f:Nat):List (Nat×(S->K (PX×S)))->Prop
 |nil:VA w0 f []
 |loop {id:Nat} {g:S->K (PX×S)} {r:List (Nat×(S->K (PX×S)))} (hid:id<500000) (h:LN w0 f id g) (hr:VA w0 f r):VA w0 f ((id,g)::r)
 |reg {id:Nat} {g:S->K (PX×S)} {r:List (Nat×(S->K (PX×S)))} (h:GN w0 f id g) (hr:VA w0 f r):VA w0 f ((1000000+id,g)::r)
theorem VA.loops{w0 f hk}(h:VA w0 f hk): ∀id g,id<500000->lk hk id=Z g->LN w0 f id g:=by
 induction h with
 |nil=>intro id g _ h;cases h
 | @loop oN g' r qiH h hr ih=>grind [id,lk,pt]
 | @reg oN g' r h hr ih=>
  intro id g U B;unfold lk at B;split at B
  ·grind [pt]
  grind
theorem VA.qkf{w0 f hk}(h:VA w0 f hk): ∀id g,lk hk (1000000+id)=Z g->GN w0 f id g:=by
 induction h with
 |nil=>intro id g h;cases h
 | @loop oN g' r qiH h hr ih=>grind [id,lk,pt]
 | @reg oN g' r h hr ih=>
  intro id g B;unfold lk at B;split at B
  ·simp_all
  grind
def qa3 c:=(aH c).all λd=>Nat.blt (Of d) 500000
theorem CP{f id d}(hu:E4 PR f=O)(hd:d∈dH (bA PR f id)):nP PR f (Of d)=d:=by
 unfold bA at hd;split at hd
 next fn U=>
  split at hd
  next c B=>
   cases h:hY id (aH c) with
   |none=>rw[h] at hd;simp[dH] at hd
   |some e=>rw[h] at hd;exact KR U B hu (fc c (lB _ h) hd)
  simp[dH] at hd
 simp[dH] at hd
theorem LR.par{X w0}(hX:b7 PR w0 X.cf){H HN hk}{f id:Nat}{g}(hsm:qa3 (bA PR f id)=O)(hH:HD X H)(jd:Jb w0 HN)(hl:VA w0 f hk)
  {A B:Type} (hd:A->B->S) (Inv:A->B->Prop) (mu:A->B->Nat) (Out:A->PX×S->Prop)
  (hr: ∀a b,Inv a b->Ap H HN hk f id (hd a b) (roundPost (mu a b) (λm s=> ∃U,s=hd a U/\Inv a U/\m=mu a U) (Out a)))
  (hg: ∀s E,g s E-> ∃a b,s=hd a b/\Inv a b/\ ∀x,Out a x->E x) (hu:uniq PR f=O:=by kernel_rfl) (hug:E4 PR f=O:=by kernel_rfl):LN w0 f id (ah (aV f id) g):=by
 intro val lo mk s E hp;unfold ah at hp;cases hh:cQ (aV f id) s with
 |none=>grind
 |some s0=>
  simp only[hh] at hp;obtain⟨a,b,rfl,h1,h2⟩:=hg s0 E hp;refine TW.mono (TW.loop (keep:=aV f id) (I:=λm s=> ∃U,s=hd a U/\Inv a U/\m=mu a U) (O:=Out a) (λn s hs=> ?_) hh ⟨b,rfl,h1,rfl⟩) h2;obtain⟨U,rfl,h3,rfl⟩:=hs;have:=hr a U h3;unfold Ap at this;refine TW.mono (fE (kp:=yP X) (T:=⟨val,w0,lo,mk⟩) jd.get (nR hH) hX sK (bA PR f id) (qcZ f id) (λd hd h hh s E hp=>by
   have hs:Of d<500000:=by grind [qa3,Nat.blt_eq,List.all_eq_true]
   have:=hl.loops _ _ hs hh val lo mk s E hp;rwa [sc hu hd] at this) (λd hd h hh s E hp=>by
   have:=hl.qkf _ _ hh val lo mk s E hp;rwa [CP hug hd] at this) _ _ this) ?_
  rintro⟨e,s1⟩ hx;cases e with
  |normal=>obtain⟨s2,h4,m,h5,h6⟩:=Q2 (p:=λs2=>cQ (aV f id) s1=Z s2) (λ_ h=>h) _ hx;grind
  |exit i=>obtain⟨s2,h4,h5⟩:=Q2 (p:=λs2=>dD (aV f id) s1=Z s2) (λ_ h=>h) _ hx;exact⟨s2,h4,h5⟩
  |ret=>obtain⟨s2,h4,h5⟩:=Q2 (p:=λs2=>dD (aV f id) s1=Z s2) (λ_ h=>h) _ hx;exact⟨s2,h4,h5⟩
theorem NR.mk{X w0}(hX:b7 PR w0 X.cf){H HN hk f h}(hH:HD X H)(jd:Jb w0 HN)(hl:VA w0 f hk)
  (hb: ∀ps R E,h ps R E->PE H HN hk f ps R E) (hu:uniq PR f=O:=by kernel_rfl) (huR:vC PR f=O:=by kernel_rfl) (U:E4 PR f=O:=by kernel_rfl):ND w0 f h:=
 zm.mkR (kp:=yP X) jd.get (nR hH) hX sK K4 hu huR U (λid g hid hg val lo s E B=>hl.loops id g hid hg val lo O s E B) (λid g hg val lo s E B=>hl.qkf id g hg val lo O s E B) (λps R E B=>hb ps R E B)
theorem GN.canon{w0 f id keep g}(h:GN w0 f id g):GN w0 f id (ah keep g):=λval lo mk s E B=>by
 unfold ah at B;cases U:cQ keep s with
 |none=>grind
 |some s0=>simp only[U] at B;refine TW.KP λF G w a hs=> ?_;obtain⟨G0,g1,g2⟩:=eA hs U;exact⟨F,G0,s0,E,g1,g2,h val lo mk s0 E B,λe s2 F2 G2 w2 a2 B k1 k2=>⟨F2,G2,s2,k1,g2.trans k2,B⟩⟩
theorem fS{α:Type}{k}{v:α}{r j e}(h:lk ((k,v)::r) j=Z e):(j=k/\e=v)\/lk r j=Z e:=by grind [lk,pt]
theorem gY{α:Type}{k}{v:α}{j e}(h:lk [(k,v)] j=Z e):j=k/\e=v:=by
 rcases fS h with h |h
 ·exact h
 cases h
theorem wv{F F' w w' v x}(h:bf F w v x)(B:D.Nt x=O):bf F' w' v x:=by cases h<;>first | (cases B;done)|constructor
theorem jk.eq{g B}(h:jk g B)(U: ∀l,B≠ .tuple l):g=B:=by
 rcases h with h | ⟨v,l,l',h1,h2⟩
 ·exact h
 grind
section
variable{α:Type}{p:α->Bool}
theorem IC: ∀{l:List α} {k:Nat} {x:α},l[k]?=Z x->p x=O->(∀i y,l[i]?=Z y->p y=O->i=k)->l.find? p=Z x
 | [],k,x,h,_,_=>by simp at h
 |z::l,k,x,h,hp,hu=>by
  cases B:p z with
  |true=>have e:=hu 0 z rfl B;grind
  |false=>
   rw[zcM (by simp[B])];cases k with
   |zero=>grind
   |succ k=>exact IC (k:=k) h hp λi y hi U=>by have:=hu (i+1) y hi U;omega
theorem CQ: ∀{l:List α} {k:Nat} {x y:α},l[k]?=Z x->p x=C->p y=C->(l.set k y).find? p=l.find? p
 | [],k,x,y,h,_,_=>by simp at h
 |z::l,0,x,y,h,hx,hy=>by cases h;rw[zc2,zcn,zcn,hx,hy]
 |z::l,k+1,x,y,h,hx,hy=>by rw[List.set_cons_succ,zcn,zcn,CQ (l:=l) (k:=k) h hx hy]
end
section
variable{Q:M}{F F2:Nat->Prop}{G V V1 G1 G2:Nat->W}{w w2 w0:World}{R R1 R2:List (Nat×En)}
theorem de.k9(h:de Q ⟨V,w0,0,C⟩ F G w R){b}(B:Own G R b):b<w.heap.size:=by obtain⟨n,e,h1,U⟩:=B;exact(h.rg n e h1).lt U
theorem de.shut(h:de Q ⟨V,w0,0,C⟩ F G w R)(h2:de Q ⟨V1,w0,0,C⟩ F2 G2 w2 R2)(hx:Ext (Own G1 R1) (Own G2 R2) F F2 w w2)(hs: ∀b,Own G1 R1 b->Own G R b){t x p u}{B:List Nat}
  (hp: ∀w',(∀b,b∈B->w'.heap[b]?=w2.heap[b]?)->p w' (.tuple ⟨u::B.map oP⟩)) (hb: ∀b∈B,Own G2 R2 b\/Own G R b) (hT: ∀i,t=Z i-> ∃l,V i= .tuple ⟨u::l⟩):
  de Q ⟨V,w0,0,C⟩ F (λ_=> .tuple ⟨u::B.map oP⟩) w2 [(0,⟨0,t,.deep x p⟩)]/\Ext (Own G R) (Own (λ_=> .tuple ⟨u::B.map oP⟩) [(0,⟨0,t,.deep x p⟩)]) F F w w2:=by
 have ho: ∀b,Own (λ_=> .tuple ⟨u::B.map oP⟩) [(0,⟨0,t,.deep x p⟩)] b->b∈B:=λb ⟨n,e,h1,U⟩=>by obtain⟨rfl,rfl⟩:=gY h1;have U:b∈JR (.tuple ⟨u::B.map oP⟩):=U;rwa [oQ] at U
 refine h.back h2 hx hs ?_ ?_ ?_ ?_
 ·intro n e he;obtain⟨rfl,rfl⟩:=gY he;refine⟨u,B,rfl,λb hbb=> ?_,λw' hw=>hp w' λb hb=>hw b (.inl hb)⟩;rcases hb b hbb with U |U
  ·exact h2.k9 U
  exact zaR (h.k9 U) hx.size
 ·intro n m e e' b he cP _ _;rw[(gY he).1,(gY cP).1]
 ·grind
 intro n e i he hi _;obtain⟨rfl,rfl⟩:=gY he;obtain⟨l,hl⟩:=hT i hi;exact .inr ⟨u,B.map oP,l,rfl,hl⟩
end
abbrev aS:=ak×ak×List UInt8
abbrev a8:=ak×ak×List UInt8
def kg t:=if Lib.validD t=O then DY t else []
def mZ(r:aS)(k:Nat):ak:=(r.2.1.1,r.2.1.2.1,r.2.1.2.2+k)
def Np(r:aS):Nat->ak
 |0=>r.1
 |k+1=>mZ r k
def Mv(o:List a8) x a p:=if x=aJ\/(o.any λe=>e.1==x)=O then o else o++[(x,a,p)]
def CR r o (l:List (List UInt8)):=l.zipIdx.foldl (λo p=>Mv o (mZ r p.2) (Np r p.2) p.1) o
def elR o r:=CR r o (kg r.2.2)
def ku(l:List aS):=l.foldl elR []
theorem rV{r o l i}(h:i<J l):CR r o (l.take (i+1))=Mv (CR r o (l.take i)) (mZ r i) (Np r i) l[i]:=by grind [CR,mi,List.length_take,Nat.min_eq_left,Nat.le_of_lt]
theorem rW{l i}(h:i<J l):ku (l.take (i+1))=elR (ku (l.take i)) l[i]:=by grind [ku,mi]
theorem qe7 o x a p:J (Mv o x a p)<=J o+1:=by grind [Mv]
theorem Aq{r o l}: ∀i,i<=J l->J (CR r o (l.take i))<=J o+i
 |0,_=>by simp[CR]
 |i+1,hi=>by rw[rV (by omega)];have:=qe7 (CR r o (l.take i)) (mZ r i) (Np r i) (l[i]'(by omega));have:=Aq (r:=r) (o:=o) (l:=l) i (by omega);omega
def Mw(R:List aS)(o:List a8):=(o.map (·.1)).Nodup/\ ∀e∈o,e.1≠aJ/\ ∃r∈R,∃k,k<J (kg r.2.2)/\e.1=mZ r k/\e.2.1=Np r k
theorem Mw.step{R o}(h:Mw R o){r}(U:r∈R){k}(hk:k<J (kg r.2.2)) p:Mw R (Mv o (mZ r k) (Np r k) p):=by
 unfold Mv;split
 ·exact h
 rename_i hn;refine⟨?_,λe B=> ?_⟩
 ·rw[zaC,zbx];refine⟨h.1,by simp,λa ha b hb e=> ?_⟩;rw[show b=mZ r k by grind] at e;grind
 rcases zaK.1 B with B |B
 ·exact h.2 e B
 grind
theorem Mw.run{R o}(h:Mw R o){r}(B:r∈R): ∀i,i<=J (kg r.2.2)->Mw R (CR r o ((kg r.2.2).take i))
 |0,_=>by simpa [CR] using h
 |i+1,hi=>by rw[rV (by omega)];exact(Mw.run h B i (by omega)).step B (by omega) _
theorem CS{l}: ∀i,i<=J l->Mw l (ku (l.take i))
 |0,_=>⟨by simp[ku],λe h=>by simp[ku] at h⟩
 |i+1,hi=>by rw[rW (by omega)];have:=(CS (l:=l) i (by omega)).run (zay (show i<J l by omega)) (J (kg (l[i]'(by omega)).2.2)) (zag _);rwa [zan] at this
def UM(l:List aS):=(l.map λr=>J (kg r.2.2)).sum
theorem xX{l i}(h:i<J l):UM (l.take (i+1))=UM (l.take i)+J (kg l[i].2.2):=by unfold UM;rw[zah h,zaC,List.sum_append];rfl
theorem Mx l i:UM (l.take i)<=UM l:=by grind [UM,List.take_append_drop]
theorem qm{l}: ∀i,i<=J l->J (ku (l.take i))<=UM (l.take i)
 |0,_=>by simp[ku]
 |i+1,hi=>by rw[rW (by omega),xX (by omega)];have B:=qm (l:=l) i (by omega);have h:=Aq (r:=l[i]'(by omega)) (o:=ku (l.take i)) (l:=kg (l[i]'(by omega)).2.2) _ (zag _);rw[zan] at h;unfold elR;omega
theorem CT{α β:Type}(f:α->β){l:List α}(h:(l.map f).Nodup):l.Nodup:=List.Pairwise.of_map f (λ_ _ h e=>h (congrArg f e)) h
def gtE(a b:a8):=kr b.1 a.1
def ic(all:List a8) x:=dL gtE (all.filter λe=>e.2.1==x)
def uC(all:List a8):Nat->List a8->List a8
 |0,_=>[]
 |_+1,[]=>[]
 |n+1,x::w=>x::uC all n (ic all x.1++w)
def uD all:=uC all (J all+1) (ic all aJ)
theorem nc{all x e}:e∈ic all x↔e∈all/\e.2.1=x:=by unfold ic;rw[(cm _).mem_iff,zce,zbV]
structure wx(all o w:List a8):Prop where
 nd:((o++w).map (·.1)).Nodup
 sub: ∀e∈o++w,e∈all/\(e.2.1=aJ\/ ∃y∈o,y.1=e.2.1)
theorem wx.len{all o w}(h:wx all o w):J o+J w<=J all:=by have U:(o++w).Nodup:=CT _ h.nd;have:=U.length_le_of_subset (l₂:=all) λe B=>(h.sub e B).1;rwa [zaf] at this
theorem wx.step{all o w x}(ha:(all.map (·.1)).Nodup)(hr: ∀e∈all,e.1≠aJ)(h:wx all o (x::w)):wx all (o++[x]) (ic all x.1++w):=by
 have hx:=h.sub x (zbO _ (.head _));have mr:=h.nd;have e1:o++x::w=o++[x]++w:=by simp
 rw[e1] at mr;have mx: ∀e∈o++[x]++w,e∈all/\(e.2.1=aJ\/ ∃y∈o,y.1=e.2.1):=λe U=>h.sub e (by rwa [e1]);have hxo: ∀y∈o,y.1≠x.1:=by grind
 have fh: ∀e∈ic all x.1,e∉o++[x]++w:=by grind [nc]
 have hb:(ic all x.1).Nodup:=by unfold ic;exact(cm _).nodup_iff.2 (zb6.nodup (CT _ ha))
 have key: ∀L:List a8,L.Nodup->(∀e∈L,e∈all)->(L.map (·.1)).Nodup:=by
  intro L
  induction L with
  |nil=>simp
  |cons a r ih=>intro h1 h2;rw[zaU] at h1;rw[zaS,zaU];refine⟨λhm=> ?_,ih h1.2 λe U=>h2 e (.tail _ U)⟩;obtain⟨y,hy,e⟩:=zal.1 hm;have:=kG ha y (h2 y (.tail _ hy)) a (h2 a (.head _)) e;exact h1.1 (this▸hy)
 refine⟨key _ ?_ ?_,?_⟩
 ·have B:(o++[x]++w).Nodup:=CT _ mr;rw[zbx] at B⊢;grind
 ·grind [nc]
 intro e U;have B: ∀e,e∈o++[x]++w->e∈all/\(e.2.1=aJ\/ ∃y∈o++[x],y.1=e.2.1):=by
  intro e U;obtain⟨h1,h2⟩:=mx e U;refine⟨h1,?_⟩;rcases h2 with h2 | ⟨y,hy,h2⟩
  ·exact .inl h2
  exact .inr ⟨y,zbS _ hy,h2⟩
 rcases zaK.1 U with U |U
 ·exact B e (zbS _ U)
 rcases zaK.1 U with U |U
 ·obtain⟨h1,h2⟩:=nc.1 U;exact⟨h1,.inr ⟨x,zbO _ (.head _),h2.symm⟩⟩
 exact B e (zbO _ U)
theorem wx.start{all}(B:(all.map (·.1)).Nodup):wx all [] (ic all aJ):=by
 refine⟨?_,λe h=> ?_⟩
 ·skip
  grind [ic,cm]
 grind [nc]
theorem FU{all}(U:(all.map (·.1)).Nodup)(B: ∀e∈all,e.1≠aJ): ∀n m o w,wx all o w->J all<J o+n->J all<J o+m->uC all n w=uC all m w
 |0,_,o,w,h,hn,_=>by have:=h.len;omega
 |_+1,0,o,w,h,_,hm=>by have:=h.len;omega
 |n+1,m+1,o,w,h,hn,hm=>by
  cases w with
  |nil=>rfl
  |cons x w=>unfold uC;rw[FU U B n m (o++[x]) _ (h.step U B) (by simp;omega) (by simp;omega)]
theorem My{all}(U:(all.map (·.1)).Nodup)(B: ∀e∈all,e.1≠aJ): ∀n o w,wx all o w->J o+J (uC all n w)<=J all
 |0,o,w,h=>by have:=h.len;simp[uC];omega
 |n+1,o,[],h=>by have:=h.len;grind [uC]
 |n+1,o,x::w,h=>by have:=My U B n (o++[x]) _ (h.step U B);grind [uC]
def cx(e:a8):D:= .agg [.int GE e.1.1,.int GE e.1.2.1,.int GE e.1.2.2,.str e.2.2]
abbrev noB:Nat->Prop:=λ_=>False
abbrev bK:=ak×List a8×Nat×Nat
abbrev MM:=List (ak×List a8)
def nf(x:bK):W:= .slice (Z ⟨x.2.2.1,0,Y⟩) (J x.2.1) x.2.2.2
def kJ(x:bK):D:= .qz x.2.2.1 (J x.2.1) x.2.2.2
def aQ(al:List bK) k:=(al.find? λx=>OF (aF x.1) k).map kJ
abbrev cG(al:List bK):=al.map (·.2.2.1)
def qM w (x:bK):=x.2.1≠[]/\ ∃cs,w.heap[x.2.2.1]?=Z (.cells cs 180 (0,0))/\J x.2.1<=x.2.2.2/\x.2.2.2<=maxLen/\cs.size=x.2.2.2*4/\nw noB w cs 4 (x.2.1.map cx)
structure GM(m:MM)(w:World)(b:Nat)(al:List bK):Prop where
 a:al.map (λx=>(x.1,x.2.1))=m
 nd:(b::cG al).Nodup
 kd:(al.map (·.1)).Nodup
 mp: ∃es ck,w.heap[b]?=Z (.map es ck)/\ja PR noB w 49 (aQ al) (J al) es.toList ck
 f: ∀x∈al,qM w x
abbrev tuM(b:Nat)(h:List Nat):W:= .tuple ⟨.map (Z b)::h.map oP⟩
structure GD(m:MM)(w:World)(g:W):Prop where
 h: ∃b al,g=tuM b (b::cG al)/\GM m w b al
abbrev gR(m:MM):En:=⟨0,Y,.deep (.agg []) (GD m)⟩
theorem wz{F F' w w' cs}{l:List a8}(h:nw F w cs 4 (l.map cx)):nw F' w' cs 4 (l.map cx):=λi x U=>by
 obtain⟨h1,h2,h3⟩:=h i x U;refine⟨h1,h2,λj c B=> ?_⟩;have h4:=h3 j c B;rw[zaw] at U;cases hl:l[i]? with
 |none=>rw[hl] at U;cases U
 |some s=>
  rw[hl] at U;cases U
  match j,B with
  |0,B=>cases B;exact wv h4 rfl
  |1,B=>cases B;exact wv h4 rfl
  |2,B=>cases B;exact wv h4 rfl
  |3,B=>cases B;exact wv h4 rfl
  |j+4,B=>cases B
theorem ja.qz{F F' w w' B al}{n es ck}(h:ja PR F w B (aQ al) n es ck):ja PR F' w' B (aQ al) n es ck:=by obtain⟨ks,h1,h2,h3,h4,h5,h6,h7⟩:=h;refine⟨ks,h1,h2,λi p e U he=> ?_,h4,h5,h6,h7⟩;obtain⟨a,b,c⟩:=h3 i p e U he;refine⟨a,b,?_⟩;have h8:=(h5 p.1 p.2).2 (zas U);obtain⟨x,_,hx⟩:=zap.1 h8;rw[<-hx] at c⊢;generalize e.val=v at c⊢;cases c;exact .qz _ _ _
theorem qM.keep{w w2 x}(h:qM w x)(B:w2.heap[x.2.2.1]?=w.heap[x.2.2.1]?):qM w2 x:=by obtain⟨g0,cs,g2,g3,g4,g5,U⟩:=h;exact⟨g0,cs,B.trans g2,g3,g4,g5,wz U⟩
theorem GM.keep{m w w2 b al}(h:GM m w b al)(hb:w2.heap[b]?=w.heap[b]?)(U: ∀c∈cG al,w2.heap[c]?=w.heap[c]?):GM m w2 b al:=by obtain⟨es,ck,h1,h2⟩:=h.mp;exact⟨h.a,h.nd,h.kd,⟨es,ck,hb.trans h1,h2.qz⟩,λx B=>(h.f x B).keep (U _ (zal.2 ⟨x,B,rfl⟩))⟩
theorem nX{x y}:OF (aF x) (aF y)=O↔x=y:=by rw[D.bU];grind [aF]
theorem GM.uniq{m w b al}(h:GM m w b al){i:Nat}{x}(hi:al[i]?=Z x): ∀j y,al[j]?=Z y->OF (aF y.1) (aF x.1)=O->j=i:=λj y hj U=>by
 have B:(al.map (·.1))[j]?=(al.map (·.1))[i]?:=by grind [nX]
 exact(zc8 (by grind) h.kd).1 B
theorem CU{al k}(h: ∀x∈al,x.1≠k):aQ al (aF k)=Y:=by grind [aQ,nX]
theorem GM.at{m w b al}(h:GM m w b al){i:Nat}{x}(B:al[i]?=Z x):aQ al (aF x.1)=Z (kJ x):=by unfold aQ;rw[IC (p:=λy:bK=>OF (aF y.1) (aF x.1)) B (nX.2 rfl) (h.uniq B)];rfl
theorem GM.set{m w b al}(h:GM m w b al){i x y}(U:al[i]?=Z x)(hy:y.1=x.1):(λj=>bif OF (aF x.1) j then Z (kJ y) else aQ al j)=aQ (al.set i y):=by
 have dE:=(zab.1 U).1;funext j;unfold aQ;cases B:OF (aF x.1) j with
 |true=>
  have B:=(D.bU _ _).1 B;subst B;rw[zcA,IC (p:=λz:bK=>OF (aF z.1) (aF x.1)) (zbc dE) (nX.2 hy) λn z hn hz=> ?_]
  ·rfl
  by_cases e:i=n
  ·exact e.symm
  rw[zbb e] at hn;exact h.uniq U n z hn hz
 |false=>rw[zbE,CQ U B (by grind)]
theorem PF{al y}(h: ∀x∈al,x.1≠y.1):(λj=>bif OF (aF y.1) j then Z (kJ y) else aQ al j)=aQ (al++[y]):=by
 funext j;have h0:=CU h;unfold aQ at h0⊢;rw[zcB];cases B:OF (aF y.1) j with
 |true=>have U:=(D.bU _ _).1 B;grind
 |false=>rw[zbE,zcM (by rw[B];simp),List.find?_nil,zdl]
def xY(m:MM)(k:ak)(e:a8):MM:=match m.findIdx? (λx=>x.1==k) with
 |Z i=>(match m[i]? with |Z x=>m.set i (k,x.2++[e])|Y=>m)
 |Y=>m++[(k,[e])]
theorem qg1:sz PR 180=Z 4:=by rfl
abbrev dY(l:List a8):Obj:= .arr 180 C (l.map cx)
abbrev mapM(al:List bK):Obj:= .map 49 (aQ al) (J al) C
section
variable{T:Tg}{F:Nat->Prop}{G:Nat->W}{w:World}{a:Act}{s:S}{m:MM}{nb rb nn vb:Nat}
theorem qa4{t}(h:ax PR T F G w a s)(U:lk s.rg nb=Z ⟨vb,t,(gR m).obj⟩): ∃b al,G nb=tuM b (b::cG al)/\GM m w b al/\ ∀c∈b::cG al,Own G s.rg c/\ ¬F c/\ ∀n e,nb≠n->lk s.rg n=Z e-> ¬a7 (G n) e.obj c:=by
 obtain⟨v,bs,e1,_,hp⟩:=h.rg nb _ U;obtain⟨⟨b,al,e2,hg⟩⟩:=hp w λ_ _=>rfl;have e3:=e1.trans e2;have ho: ∀c∈b::cG al,a7 (G nb) (gR m).obj c:=λc B=>by show c∈JR (G nb);rw[e3,oQ];exact B
 exact⟨b,al,e3,hg,λc B=>⟨⟨nb,_,U,ho c B⟩,h.jb nb _ c U (ho c B),λn e hn he hb=>hn (h.own nb n _ _ c U he (ho c B) hb)⟩⟩
theorem rX{B U F w}(h: ∀b,U b->B b):Ext B U F F w w:=⟨λ_ h=>h,λ_ h=> .inl h,λb hb=> .inl (h b hb),λ_ _ _=>rfl,zag _,rfl,rfl,rfl⟩
theorem qg2(h:ax PR T F G w a s)(C7:lk s.rg nb=Z ⟨vb,Y,(gR m).obj⟩):
  ∃b al G1,G nb=tuM b (b::cG al)/\GM m w b al/\ax PR T F G1 w a ⟨s.n,s.tm,ins nb ⟨vb+1,Y,mapM al⟩ s.rg⟩/\G1 nb= .map (Z b)/\(∀n,nb≠n->G1 n=G n)/\
   (∀c,Own G1 (ins nb ⟨vb+1,Y,mapM al⟩ s.rg) c->Own G s.rg c)/\ ∀c∈cG al,¬Own G1 (ins nb ⟨vb+1,Y,mapM al⟩ s.rg) c/\Own G s.rg c/\ ¬F c:=by
 obtain⟨b,al,e3,hg,dO⟩:=qa4 h C7;obtain⟨es,ck,hb,hq⟩:=hg.mp;have mr:=zaU.1 hg.nd;obtain⟨h1,xt⟩:=h.KQ (n:=nb) (e1:=⟨vb+1,Y,mapM al⟩) (g1:= .map (Z b)) (λe U=>by grind) (λc B=>by
   have B:c=b:=(zaT B.2).symm;grind) ⟨b,es,ck,aM _ _ _,hb,hq.qz,λh=>by cases h⟩ (λi hi=>by cases hi) (λc B d=>by
   have B:c=b:=(zaT B.2).symm;grind)
 have hO: ∀c,Own (Pi.gj G nb (.map (Z b))) (ins nb ⟨vb+1,Y,mapM al⟩ s.rg) c->c=b\/ ∃n e,nb≠n/\lk s.rg n=Z e/\a7 (G n) e.obj c:=λc ⟨n,e,U,B⟩=>by
  by_cases hn:nb=n
  ·subst hn;rw[aX] at U;cases U;rw[aM] at B;exact .inl (zaT B.2).symm
  grind [br,bW]
 refine⟨b,al,_,e3,hg,h1,aM _ _ _,λn hn=>bW _ (za0 hn),λc B=> ?_,λc B=>⟨λho=> ?_,(dO c (zaH _ B)).1,(dO c (zaH _ B)).2.1⟩⟩
 ·rcases hO c B with rfl | ⟨n,e,_,U,B⟩
  ·grind
  exact⟨n,e,U,B⟩
 grind
theorem Sf{v G1 R R1 b}{bs}(U:bR F w G R a.tmps v (.wV nb vb))(C7:lk R nb=Z ⟨vb,Y,(gR m).obj⟩)(hg:G nb=tuM b bs){v1 o1}(h1:lk R1 nb=Z ⟨v1,Y,o1⟩)(h:G1 nb= .map (Z b)):bR F w G1 R1 a.tmps v (.mp nb v1):=by
 cases U with
 |wV _ _ _ k1 hr=>obtain⟨e,B,_,hc⟩:=hr;rw[C7] at B;cases B;obtain⟨l,hl⟩:=hc rfl rfl;rw[hg] at hl;cases hl;exact .mp nb v1 _ rfl ⟨_,h1,zag _,λ_ _=>h.symm⟩
theorem qkg(h:ax PR T F G w a s)(Qo:lk s.rg nn=Y){x}(hx:qM w x)(hf: ¬F x.2.2.1)(ho: ¬Own G s.rg x.2.2.1):
  ax PR T F (Pi.gj G nn (nf x)) w a ⟨s.n,s.tm,ins nn ⟨0,Y,dY x.2.1⟩ s.rg⟩/\ ∀c,Own (Pi.gj G nn (nf x)) (ins nn ⟨0,Y,dY x.2.1⟩ s.rg) c->c=x.2.2.1\/Own G s.rg c:=by
 obtain⟨z0,cs,z1,z2,z3,z4,z5⟩:=hx;obtain⟨h2,_⟩:=h.KQ (n:=nn) (e1:=⟨0,Y,dY x.2.1⟩) (g1:=nf x) (λe U=>by rw[Qo] at U;cases U) (λc B=>by
   have B:c=x.2.2.1:=(zaT B.2).symm;subst B;exact⟨hf,λn e _ U hb=>ho ⟨n,e,U,hb⟩⟩) (.inr ⟨x.2.2.1,x.2.2.2,cs,4,by rw[aM,zaa];rfl,z1,qg1,by decide,by rw[zaa];exact z2,z3,z4,(λh=>by cases h),wz z5⟩) (λi hi=>by cases hi) (λc B d=>by
   have B:c=x.2.2.1:=(zaT B.2).symm;grind)
 refine⟨h2,λc ⟨n,e,U,B⟩=> ?_⟩;by_cases hn:nn=n
 ·subst hn;rw[aX] at U;cases U;rw[aM] at B;exact .inl (zaT B.2).symm
 rw[br _ _ hn] at U;rw[bW _ (za0 hn)] at B;exact .inr ⟨n,e,U,B⟩
theorem Sg{v R x}(h:bR F w G R a.tmps v (.d (kJ x))){G1 R1 v1 o1}(U:lk R1 nn=Z ⟨v1,Y,o1⟩)(B:G1 nn=nf x):bR F w G1 R1 a.tmps v (.sl nn v1 (J x.2.1)):=by
 cases h with
 |d h=>cases h;exact .sl nn v1 _ _ rfl ⟨_,U,zag _,λ_ _=>⟨_,_,_,B,rfl,zag _⟩⟩
theorem qg3{t3 v3 es}(Da:es≠[])(h:ax PR T F G w a s)(U:lk s.rg nn=Z ⟨v3,t3,dY es⟩): ∃B cap,G nn= .slice (Z ⟨B,0,Y⟩) (J es) cap/\a7 (G nn) (dY es) B/\ ∀k,qM w (k,es,B,cap):=by
 rcases h.rg nn _ U with⟨_,m1⟩| ⟨B,cap,cs,z,m1,m2,m3,m4,m5,m6,m7,_,m8⟩
 ·simp_all
 cases m3;rw[zaa] at m1 m5;exact⟨B,cap,m1,by rw[m1];exact⟨rfl,rfl⟩,λk=>⟨Da,cs,m2,m5,m6,m7,wz m8⟩⟩
theorem qa5{v B t3 o3}{len}(hv:bR F w G s.rg a.tmps v (.sl nn B len))(h:lk s.rg nn=Z ⟨B,t3,o3⟩)(hl:o3.live=O){U cap N}(hg:G nn= .slice (Z ⟨U,0,Y⟩) N cap){F' w' G' R'}:bR F' w' G' R' a.tmps v (.d (.qz U len cap)):=by
 cases hv with
 |sl _ _ _ _ _ hr=>obtain⟨e,he,_,hc⟩:=hr;rw[h] at he;cases he;obtain⟨a',N',c',c1,c2,_⟩:=hc rfl hl;rw[hg] at c1;cases c1;rw[c2];exact .d (.qz _ _ _)
theorem qg4{n3 U t3 o3}(h:ax PR T F G w a s)(hn3:lk s.rg n3=Z ⟨U,t3,o3⟩):
  ax PR T F (Pi.gj G n3 undef) w a ⟨s.n,s.tm,ins n3 ⟨U+1,Y,.gone⟩ s.rg⟩/\(∀c,Own (Pi.gj G n3 undef) (ins n3 ⟨U+1,Y,.gone⟩ s.rg) c-> ∃n e,n3≠n/\lk s.rg n=Z e/\a7 (G n) e.obj c):=by
 obtain⟨h1,_⟩:=h.KQ (n:=n3) (e1:=⟨U+1,Y,.gone⟩) (g1:=undef) (λe he=>by grind) (λc B=>B.elim) trivial (λi hi=>by cases hi) (λc B=>B.elim);refine⟨h1,λc ⟨n,e,he,B⟩=> ?_⟩;by_cases hn:n3=n
 ·subst hn;rw[aX] at he;cases he;exact B.elim
 grind [br,bW]
theorem qa6{v2 t2 al' m'}{b o2}(h:ax PR T F G w a s)(U9:lk s.rg nb=Z ⟨v2,t2,o2⟩)(yH:a7 (G nb) o2 b)(hg:GM m' w b al')
  (hb: ∀c∈cG al',¬F c/\ ∀n e,lk s.rg n=Z e-> ¬a7 (G n) e.obj c):
  ∃G3,ax PR T F G3 w a ⟨s.n,s.tm,ins nb ⟨v2+1,Y,(gR m').obj⟩ s.rg⟩/\G3 nb=tuM b (b::cG al')/\ ∀c,Own G3 (ins nb ⟨v2+1,Y,(gR m').obj⟩ s.rg) c->Own G s.rg c\/c∈cG al':=by
 obtain⟨esM,ck,hbm,hq⟩:=hg.mp;have U: ∀c,a7 (tuM b (b::cG al')) (gR m').obj c->c=b\/c∈cG al':=λc B=>by have B:c∈JR (tuM b (b::cG al')):=B;rw[oQ] at B;grind
 have aZ: ∀c∈b::cG al',c<w.heap.size:=λc B=>by
  rcases zao.1 B with rfl |B
  ·grind
  obtain⟨x,hx,rfl⟩:=zal.1 B;obtain⟨_,cs,z,_⟩:=hg.f x hx;grind
 obtain⟨h1,xt⟩:=h.KQ (n:=nb) (e1:=⟨v2+1,Y,(gR m').obj⟩) (g1:=tuM b (b::cG al')) (λe he=>by grind) (λc B=>by
   rcases U c B with rfl |B
   ·exact⟨h.jb nb _ c U9 yH,λn e hn he ho=>hn (h.own nb n _ _ c U9 he yH ho)⟩
   grind) ⟨.map (Z b),b::cG al',aM _ _ _,aZ,λw' hw=>⟨b,al',rfl,hg.keep (hw b (.inl (by simp))) λc B=>hw c (.inl (zaH _ B))⟩⟩ (λi hi=>by cases hi) (λc B d=>by
   rcases U c B with rfl |B
   ·rw[hbm];simp
   obtain⟨x,hx,rfl⟩:=zal.1 B;obtain⟨_,cs,z,_⟩:=hg.f x hx;rw[z];simp)
 refine⟨_,h1,aM _ _ _,λc ⟨n,e,he,B⟩=> ?_⟩;by_cases hn:nb=n
 ·subst hn;rw[aX] at he;cases he;rw[aM] at B;rcases U c B with rfl |B
  ·exact .inl ⟨nb,_,U9,yH⟩
  grind
 rw[br _ _ hn] at he;rw[bW _ (za0 hn)] at B;exact .inl ⟨n,e,he,B⟩
theorem Mz{v v2 t2 o2}(h:bR F w G s.rg a.tmps v (.mp nb v2))(U9:lk s.rg nb=Z ⟨v2,t2,o2⟩)(hl:o2.live=O){b bs}(hg:G nb= .map (Z b)){F' w' G' R'}{B o3}(h3:lk R' nb=Z ⟨B,Y,o3⟩)(U:G' nb=tuM b bs):bR F' w' G' R' a.tmps v (.wV nb B):=by
 cases h with
 |mp _ _ _ k1 hr=>obtain⟨e,he,_,hc⟩:=hr;rw[U9] at he;cases he;have h:=hc rfl hl;rw[hg] at h;subst h;exact .wV nb B _ rfl ⟨_,h3,zag _,λ_ _=>⟨_,U⟩⟩
end
def getM(m:MM)(k:ak):List a8:=match m.find? (λx=>x.1==k) with |Z x=>x.2 |Y=>[]
theorem getM_none{m k}(h:m.findIdx? (λx=>x.1==k)=Y):getM m k=[]:=by unfold getM;rw[zcx.2 λx B=>by simpa using zbR.1 h x B]
theorem CV{α:Type}{p}: ∀{l:List α} {i:Nat},l.findIdx? p=Z i->l.find? p=l[i]?
 | [],i,h=>by simp at h
 |x::l,i,h=>by
  rw[List.findIdx?_cons] at h;cases B:p x with
  |true=>rw[B] at h;simp only[zbj,zai] at h;subst h;rw[List.find?_cons_of_pos B];rfl
  |false=>rw[B] at h;simp only[zaF,zbk,zap] at h;obtain⟨j,U,rfl⟩:=h;rw[zcM (by simp[B]),CV U];rfl
theorem IE{m k i x}(h:m.findIdx? (λx=>x.1==k)=Z i)(B:m[i]?=Z x):getM m k=x.2/\x.1=k:=by
 refine⟨?_,?_⟩
 ·unfold getM;rw[CV h,B]
 obtain⟨hl,U,_⟩:=zbe.1 h;rw[(zab.1 B).2] at U;simpa using U
theorem MA{m k e i}{x}(h:m.findIdx? (λx=>x.1==k)=Z i)(B:m[i]?=Z x):xY m k e=m.set i (k,x.2++[e]):=by unfold xY;rw[h];simp only[B]
theorem Sh{m k e}(h:m.findIdx? (λx=>x.1==k)=Y):xY m k e=m++[(k,[e])]:=by unfold xY;rw[h]
theorem qa7 m k e U:getM (xY m k e) U=if k=U then getM m k++[e] else getM m U:=by
 cases h:m.findIdx? (λx=>x.1==k) with
 |none=>
  rw[Sh h];have h0:=getM_none h;split
  next hk=>subst hk;rw[h0];unfold getM at h0⊢;rw[zcB,zcx.2 λx B=>by simpa using zbR.1 h x B];simp
  rename_i hk;unfold getM;rw[zcB];have:List.find? (λx:ak×List a8=>x.1==U) [(k,[e])]=Y:=by simp[hk]
  rw[this,zdl]
 |some i=>
  obtain⟨hl,h2,h3⟩:=zbe.1 h;have B:m[i]?=Z m[i]:=zae hl;obtain⟨g1,g2⟩:=IE h B;rw[MA h B];split
  next hk=>
   subst hk;have h5:(m.set i (k,m[i].2++[e])).findIdx? (λx=>x.1==k)=Z i:=by rw[zbe];refine⟨by simpa using hl,by simp,λj hj=> ?_⟩;rw[List.getElem_set_ne (by omega)];exact h3 j hj
   have h6:=IE h5 (zbc hl);rw[h6.1,g1]
  rename_i hk;unfold getM;rw[CQ B (by rw[g2];simpa using hk) (by simpa using hk)]
def mO(o:List a8):=o.foldl (λm e=>xY m e.2.1 e) []
theorem qe8 o e:mO (o++[e])=xY (mO o) e.2.1 e:=by unfold mO;rw[zbZ];rfl
theorem FV: ∀(o:List a8) (m:MM) (k:ak),getM (o.foldl (λm e=>xY m e.2.1 e) m) k=getM m k++o.filter (λe=>e.2.1==k)
 | [],m,k=>by simp
 |e::o,m,k=>by
  rw[zbh,FV o,qa7,List.filter_cons];by_cases h:e.2.1=k
  ·rw[zau h,h];simp
  rw[zat h];simp[h]
theorem IF o k:getM (mO o) k=o.filter (λe=>e.2.1==k):=by have:=FV o [] k;rw[show getM [] k=[] from rfl,zbt] at this;exact this
def VB(a b:a8):=kr a.1 b.1
def lu(m:MM):MM:=m.map λx=>(x.1,dL VB x.2)
theorem UN m k:getM (lu m) k=dL VB (getM m k):=by unfold getM lu;rw[zcU];have:(λx:ak×List a8=>x.1==k)∘(λx:ak×List a8=>(x.1,dL VB x.2))=λx=>x.1==k:=rfl;rw[this];cases m.find? (λx=>x.1==k)<;>rfl
theorem qe9{all}(ha:(all.map (·.1)).Nodup) k:getM (lu (mO all)) k=(ic all k).reverse:=by
 rw[UN,IF];unfold ic;have U: ∀x∈all.filter (λe=>e.2.1==k),∀y∈all.filter (λe=>e.2.1==k),x.1=y.1->x=y:=λx hx y hy e=>kG ha x (zce.1 hx).1 y (zce.1 hy).1 e;have h:(dL VB (all.filter λe=>e.2.1==k)).Perm (all.filter λe=>e.2.1==k):=cm _;have B:(dL gtE (all.filter λe=>e.2.1==k)).Perm (all.filter λe=>e.2.1==k):=cm _;refine kb fR (λe:a8=>e.1) (λx hx y hy e=>U x (h.mem_iff.1 hx) y (h.mem_iff.1 hy) e) (h.trans (B.symm.trans (zc7 _).symm)) (lS fR (λe:a8=>e.1) (all.filter λe=>e.2.1==k)) ?_;rw[List.pairwise_reverse];have hg:Lq (λa b=>kr b a):=⟨fR.KE,λx y z h B=>fR.tr _ _ _ B h,λx y h B=>fR.wX _ _ B h⟩
 exact lS hg (λe:a8=>e.1) (all.filter λe=>e.2.1==k)
abbrev UO(h:List Nat):W:= .tuple ⟨.bool O::h.map oP⟩
structure GR(al:List bK)(w:World)(g:W):Prop where
 g:g=UO (cG al)
 nd:(cG al).Nodup
 f: ∀x∈al,qM w x
abbrev qa8(al:List bK):En:=⟨0,Y,.deep (.agg []) (GR al)⟩
section
variable{T:Tg}{F:Nat->Prop}{G:Nat->W}{w:World}{a:Act}{s:S}
theorem PG{al x p c}:a7 (UO (cG al)) (.deep x p) c↔c∈cG al:=by show c∈JR _↔_;rw[oQ]
theorem qoK{n v al}(h:ax PR T F G w a s)(hn:mj G s.rg n ⟨v,Y,.deep (.agg []) (GR al)⟩ (UO (cG al)))(mr:(cG al).Nodup)(hf: ∀x∈al,qM w x)(hb: ∀c∈cG al,¬F c/\ ∀m e,n≠m->lk s.rg m=Z e-> ¬a7 (G m) e.obj c):
  ax PR T F (Pi.gj G n (UO (cG al))) w a ⟨s.n,s.tm,ins n ⟨v,Y,.deep (.agg []) (GR al)⟩ s.rg⟩/\ ∀c,Own (Pi.gj G n (UO (cG al))) (ins n ⟨v,Y,.deep (.agg []) (GR al)⟩ s.rg) c->c∈cG al\/ ∃m e,n≠m/\lk s.rg m=Z e/\a7 (G m) e.obj c:=by
 obtain⟨h1,_⟩:=h.KQ hn (λc B=>hb c (PG.1 B)) ⟨.bool O,cG al,aM _ _ _,λc B=>by
   obtain⟨x,U,rfl⟩:=zal.1 B;obtain⟨_,cs,z,_⟩:=hf x U;exact(zar.1 z).1,λw' hw=>⟨rfl,mr,λx U=>(hf x U).keep (hw _ (.inl (zal.2 ⟨x,U,rfl⟩)))⟩⟩ (λi hi=>by cases hi) (λc B d=>by
   obtain⟨x,U,rfl⟩:=zal.1 (PG.1 B);obtain⟨_,cs,z,_⟩:=hf x U;rw[z];intro e;cases e)
 refine⟨h1,λc ⟨m,e,he,B⟩=> ?_⟩;by_cases hm:n=m
 ·subst hm;rw[aX] at he;cases he;rw[aM] at B;exact .inl (PG.1 B)
 rw[br _ _ hm] at he;rw[bW _ (za0 hm)] at B;exact .inr ⟨m,e,hm,he,B⟩
theorem MB{n v t al}(h:ax PR T F G w a s)(U:lk s.rg n=Z ⟨v,t,.deep (.agg []) (GR al)⟩):G n=UO (cG al)/\GR al w (UO (cG al))/\ ∀c∈cG al,Own G s.rg c/\ ¬F c/\ ∀m e,n≠m->lk s.rg m=Z e-> ¬a7 (G m) e.obj c:=by
 obtain⟨z,bs,e1,_,hp⟩:=h.rg n _ U;have hg:=hp w λ_ _=>rfl;rw[<-e1] at hg;have e2:=hg.g;rw[e2] at hg;have ho: ∀c∈cG al,a7 (G n) (.deep (.agg []) (GR al)) c:=λc B=>by rw[e2];exact PG.2 B
 exact⟨e2,hg,λc B=>⟨⟨n,_,U,ho c B⟩,h.jb n _ c U (ho c B),λm e hm he hb=>hm (h.own n m _ _ c U he (ho c B) hb)⟩⟩
end
noncomputable def qki H h hk f id s:=eu PR (runK PR oB qv H 60 60) h hk (qv f) (nP PR f id) s
noncomputable def qoL H h hk f id s:=eu PR (runK PR oB qv H 60 60) h hk (qv f) (bA PR f id) s
def FW(e:ak×List UInt8):D:= .agg [.int GE e.1.1,.int GE e.1.2.1,.int GE e.1.2.2,.str e.2]
def qst:bc:=λps R E=> ∃a b,ps=[.d (FW a),.d (FW b)]/\R=[]/\E (iD (lj a.1.1 a.1.2.1 a.1.2.2 b.1.1 b.1.2.1 b.1.2.2),[])
def qa9:=Cv 183 180 FW (λe:ak×List UInt8=>e.1) (λa b=>kr a b)
abbrev IG B al left h:=[(0,⟨1,Y,.map 49 (aQ B) (J B) O⟩),(1,qa8 al),(1069,⟨0,Y,.iter 49 177 left h⟩)]
abbrev h18(B al:List bK)(left:D->Option D)(h:Option (D×D)):S:=⟨77,[(3,.mp 0 1),(69,.ref 1069 0 0)],IG B al left h⟩
def ZdF al:=(1,AC 0 Y (Obj.deep jh (GR al)))
def ZdE al:=(0,AC 1 Y (If 49 (λk=>mm kJ (List.find? (λx=>OF (aF (ba x)) k) al)) (↑(J al):Int) O))
def ZdG al:=[ZdE al,ZdF al,(1069,AC 0 Y (Sa 49 177 (λk=>mm kJ (List.find? (λx=>OF (aF (ba x)) k) al)) Y))]
def VC:=(69,So 1069 0 0)
def MC:=(3,P.mp 0 1)
structure qoM(al:List bK)(x:D)(i:Nat)(row:bK):Prop where
 x:x=kJ row
 a:al[i]?=Z row
 nd:(row.2.1.map (·.1)).Nodup
 len:J row.2.1<=1000000
def g20:S->K (PX×S):=λs E=> ∃dz al left B x p70 p71 U,s=⟨77,[(3,.mp 0 1),(14,.d x),(69,.ref 1069 0 0),(70,p70),(71,p71),(72,U),(73,.d x)],IG dz al left B⟩/\
 ∃(i:Nat) (h:bK),qoM al x i h/\E (.normal,h18 dz (al.set i (h.1,dL VB h.2.1,h.2.2)) left B)
def ZdI B h:=[(1069,AC 0 Y (Sa 49 177 B h))]
def ZdK B al left h:=AS 77 [MC,VC,(70,P.cy Nb),(71,Do Z2)] (ZdE B::ZdF al::ZdI left h)
def ZdJ(E:PX×S->Prop):=λs0=> ∃FX MD xZ B x p70 p71 U,s0=AS 77 [MC,(14,Do x),VC,(70,p70),(71,p71),(72,U),(73,Do x)] (ZdE FX::ZdF MD::ZdI xZ B)/\ ∃i h,qoM MD x i h/\E (AD,AS 77 [MC,VC] (ZdE FX::(1,AC 0 Y (Obj.deep jh (GR (vc MD i (ba h,dL VB (ba (bl h)),bl (bl h))))))::ZdI xZ B))
noncomputable def ZdH es:=IR (TypeInfo.size (Tables.types (M.toTables PR))[180]) es
theorem qsu B al left U E:((∀k x,left k=Z x->ob (bE PR (49:I) k) (VW 4 x=O/\(∀es,x=ZdH es->ZdJ E (AS 77 [MC,(14,Do (IR 4 es)),VC,(70,P.cy [ZT,Do (xM k),Do (IR 4 es)]),(71,ZT),(72,P.cy [Do (xM k),Do (IR 4 es)]),(73,Do (IR 4 es))] [ZdE B,ZdF al,(1069,AC 0 Y (Sa 49 177 (λh=>bif T2 k h then Y else left h) (Z (xM k,IR 4 es))))]))/\(x=D.cd->ZdJ E (AS 77 [MC,(14,Do D.cd),VC,(70,P.cy [ZT,Do (xM k),Do D.cd]),(71,ZT),(72,P.cy [Do (xM k),Do D.cd]),(73,Do D.cd)] [ZdE B,ZdF al,(1069,AC 0 Y (Sa 49 177 (λh=>bif T2 k h then Y else left h) (Z (xM k,D.cd))))]))/\ ∀b n c,x=D.qz b n c->ZdJ E (AS 77 [MC,(14,Do (D.qz b n c)),VC,(70,P.cy [ZT,Do (xM k),Do (D.qz b n c)]),(71,ZT),(72,P.cy [Do (xM k),Do (D.qz b n c)]),(73,Do (D.qz b n c))] [ZdE B,ZdF al,(1069,AC 0 Y (Sa 49 177 (λh=>bif T2 k h then Y else left h) (Z (xM k,D.qz b n c))))])))/\(Q9 left->E (DD 4,ZdK B al left U)))=(qoL [] [] [(1000020,g20)] 137 18 (h18 B al left U)) E:=by kernel_rfl
def kQ(es:List a8):=J es
def tF es:=aa cx es
def ZdO es:=(0,AC 0 (Z 0) (Cs (180:I) C (tF es)))
def qU es:=IH 0 0 (kQ es)
theorem qsv U left h es E:(∃l,[qU es,P.fn (183:FuncId) []]=[IH 0 0 (J l),P.fn (183:FuncId) []]/\[ZdO es]=[(0,AC 0 (Z 0) (Cs (180:I) C (aa FW l)))]/\J l<=1000000/\ ∀B,List.Perm B l->List.Pairwise (λa b=>kr (ba b) (ba a)=C) B->E (AD,AS 77 [MC,(14,IH 1 1 (kQ es)),VC,(74,IH 1 1 (kQ es)),(75,Z3i)] (ZdE U::(1,AC 1 (Z 0) (Cs (180:I) C (aa FW B)))::ZdI left h)))=(qki [(182,qa9)] [] [] 137 20 ⟨77,[(3,.mp 0 1),(14,.sl 1 1 (J es)),(69,.ref 1069 0 0)],[(0,⟨1,Y,.map 49 (aQ U) (J U) O⟩),(1,⟨1,Z 0,dY es⟩),(1069,⟨0,Y,.iter 49 177 left h⟩)]⟩) E:=by kernel_rfl
def nE(m:MM)(k:D):Option D:=(m.find? λx=>OF (aF x.1) k).map λx=> .sl 4 (x.2.map cx)
theorem qsw m n E:(E (AD,AS 77 [(2,P.mp 0 1),MC,(76,P.mp 0 1)] [(0,AC 1 Y (If 49 (λk=>mm (λx=>IR 4 (aa cx (bl x))) (List.find? (λx=>OF (aF (ba x)) k) m)) n O))]))=(qki [] [] [] 137 21 ⟨77,[(3,.mp 0 1)],[(0,⟨1,Y,.map 49 (nE m) n O⟩)]⟩) E:=by kernel_rfl
section
variable{Q:M}{val val':Nat->W}{w0:World}{lo:Nat}{mk:Bool}{F:Nat->Prop}{G:Nat->W}{w:World}{a:Act}{s:S}
theorem ax.qoN(h:ax Q ⟨val,w0,lo,mk⟩ F G w a s)(cD: ∀n e,lk s.rg n=Z e->e.tag=Y):ax Q ⟨val',w0,lo,mk⟩ F G w a s:=
 ⟨h.oR,h.size,h.tm,h.rg,h.own,h.jb,h.gL,λn e i U B _=>(by rw[cD n e U] at B;cases B),h.z,h.dr,h.sz⟩
theorem ax.tagged(h:ax Q ⟨val,w0,lo,mk⟩ F G w a s)(cD: ∀m e,lk s.rg m=Z e->e.tag=Y){n e}(he:lk s.rg n=Z e):ax Q ⟨λ_=>G n,w0,lo,mk⟩ F G w a ⟨s.n,s.tm,ins n ⟨e.aU,Z 0,e.obj⟩ s.rg⟩:=by
 have jF: ∀m e',lk (ins n ⟨e.aU,Z 0,e.obj⟩ s.rg) m=Z e'-> ∃B,lk s.rg m=Z B/\e'.aU=B.aU/\e'.obj=B.obj/\(e'.tag=Y\/m=n):=λm e' U=>by grind [aX,br]
 have qsx: ∀m B,lk s.rg m=Z B-> ∃e',lk (ins n ⟨e.aU,Z 0,e.obj⟩ s.rg) m=Z e'/\e'.aU=B.aU/\e'.obj=B.obj:=λm B U=>by grind [aX,br]
 have hN:Names G G s.rg (ins n ⟨e.aU,Z 0,e.obj⟩ s.rg):=⟨λm B h0=>by grind,λ_ _ _ _ _ _ _=> .inl rfl⟩
 have hO:Own G (ins n ⟨e.aU,Z 0,e.obj⟩ s.rg)=Own G s.rg:=by
  funext b;refine propext ⟨?_,?_⟩
  ·rintro⟨m,e',U,hb⟩;obtain⟨B,h2,_,h3,_⟩:=jF m e' U;exact⟨m,B,h2,by rw[<-h3];exact hb⟩
  rintro⟨m,B,U,hb⟩;obtain⟨e',h2,_,h3⟩:=qsx m B U;exact⟨m,e',h2,by rw[h3];exact hb⟩
 have hx:Ext (Own G s.rg) (Own G (ins n ⟨e.aU,Z 0,e.obj⟩ s.rg)) F F w w:=by rw[hO];exact No _ _ _
 refine⟨h.oR.go hx,h.size,λt p hp=>bR.mono (λ_ h=>h) (λ_ _=>rfl) hN (h.tm t p hp),λm e' U=> ?_,λm1 m2 e1 e2 b U h2 hb db=> ?_,λm e' b U hb=> ?_,h.gL,λm e' i U hi hl=> ?_,h.z,h.dr,h.sz⟩
 ·obtain⟨B,h2,_,h3,_⟩:=jF m e' U;rw[h3];exact(h.rg m B h2).mono (λ_ h=>h) (λ_ _=>rfl) hN rfl (λ_ _=>rfl)
 ·obtain⟨x,k1,_,k3,_⟩:=jF m1 e1 U;obtain⟨x',k1',_,k3',_⟩:=jF m2 e2 h2;rw[k3] at hb;rw[k3'] at db;exact h.own m1 m2 x x' b k1 k1' hb db
 ·obtain⟨x,k1,_,k3,_⟩:=jF m e' U;rw[k3] at hb;exact h.jb m x b k1 hb
 obtain⟨x,k1,_,k3,k4⟩:=jF m e' U;rcases k4 with k4 |rfl
 ·rw[k4] at hi;cases hi
 exact .inl rfl
end
theorem qba{es}(hn:(es.map (·.1)).Nodup){h}(B:h.Perm (es.map λe=>(e.1,e.2.2)))(hs:h.Pairwise λa b=>kr b.1 a.1=C):h=(dL VB es).map λe=>(e.1,e.2.2):=by
 refine kb fR (λe:ak×List UInt8=>e.1) (λx hx y U e=> ?_) (B.trans ((cm (lt:=VB) es).map _).symm) hs ?_
 ·obtain⟨u,hu,rfl⟩:=zal.1 (B.mem_iff.1 hx);obtain⟨v,hv,rfl⟩:=zal.1 (B.mem_iff.1 U);rw[kG hn u hu v hv e]
 rw[za1];exact lS fR (λe:a8=>e.1) es
theorem ME(es:List a8):(es.map λe=>(e.1,e.2.2)).map FW=es.map cx:=by rw[zbr];rfl
def wT(y:bK):bK:=(y.1,dL VB y.2.1,y.2.2)
structure rY(dz:List bK)(left:D->Option D)(al:List bK):Prop where
 l: ∀k x,left k=Z x-> ∃y∈dz,k=aF y.1/\x=kJ y
 a:al=dz.map λy=>if(left (aF y.1)).isSome=O then y else wT y
def qbb(h:List bK)(left:D->Option D):=h.countP λy=>(left (aF y.1)).isSome
theorem nY{α:Type}{p q}: ∀{l:List α},(∀x∈l,p x=O->q x=O)->(∃y∈l,q y=O/\p y=C)->l.countP p<l.countP q
 | [],_,h=>by grind
 |a::l,h1,h2=>by
  have hle:=List.countP_mono_left (l:=l) λx U=>h1 x (.tail _ U);rw[List.countP_cons,List.countP_cons];cases hp:p a with
  |true=>
   have hq:=h1 a (.head _) hp;rw[hq];obtain⟨y,B,h3,h4⟩:=h2;rcases zao.1 B with rfl |B
   ·rw[hp] at h4;cases h4
   have:=nY (λx U=>h1 x (.tail _ U)) ⟨y,B,h3,h4⟩;omega
  |false=>
   cases hq:q a with
   |true=>grind
   |false=>
    obtain⟨y,B,h3,h4⟩:=h2;rcases zao.1 B with rfl |B
    ·rw[hq] at h3;cases h3
    have:=nY (λx U=>h1 x (.tail _ U)) ⟨y,B,h3,h4⟩;omega
theorem rY.start{B}(h: ∀(i:Nat) y,B[i]?=Z y->aQ B (aF y.1)=Z (kJ y)):rY B (aQ B) B:=by
 refine⟨λk x hk=> ?_,?_⟩
 ·unfold aQ at hk;obtain⟨y,U,rfl⟩:=zap.1 hk;exact⟨y,zb3 U,((D.bU _ _).1 (zdk (p:=λx:bK=>OF (aF x.1) k) U)).symm,rfl⟩
 conv=>lhs;rw[<-zci B]
 grind [List.map_congr_left,List.getElem?_of_mem]
theorem rY.step{B}(hk:(B.map (·.1)).Nodup){left al}(h:rY B left al){k x}(hx:left k=Z x): ∃i y,B[i]?=Z y/\al[i]?=Z y/\x=kJ y/\k=aF y.1/\rY B (iq k left) (al.set i (wT y))/\qbb B (iq k left)<qbb B left:=by
 obtain⟨y,hy,rfl,rfl⟩:=h.l k x hx;obtain⟨i,hi⟩:=zaD hy;have U: ∀z∈B,(iq (aF y.1) left (aF z.1))=if z.1=y.1 then Y else left (aF z.1):=λz _=>by grind [iq,nX,OF,aF]
 refine⟨i,y,hi,?_,rfl,rfl,⟨λk x uK=> ?_,?_⟩,nY (λz hz hp=> ?_) ⟨y,hy,by rw[hx];rfl,by rw[U y hy,zau rfl];rfl⟩⟩
 ·rw[h.a,zaw,hi,zaB,zau (by rw[hx];rfl)]
 ·unfold iq at uK;cases hb:OF (aF y.1) k with
  |true=>rw[hb] at uK;cases uK
  |false=>rw[hb] at uK;exact h.l k x uK
 ·refine zbX λn=> ?_;rw[zaw];by_cases e:i=n
  ·subst e;have hl:i<J al:=by rw[h.a,zaa];grind
   rw[zbc hl,hi,zaB,U y hy,zau rfl];rfl
  rw[zbb e,h.a,zaw];cases hz:B[n]? with
  |none=>rfl
  |some z=>
   have cU:z.1≠y.1:=λe2=>e (by
    have h1:(B.map (·.1))[i]?=(B.map (·.1))[n]?:=by grind
    grind [List.getElem?_inj,List.getElem?_eq_some_iff])
   rw[zaB,zaB,U z (zas hz),zat cU]
 grind
theorem rY.done{B left al}(h:rY B left al)(U: ∀k,left k=Y):al=B.map wT:=by rw[h.a];refine zaY λy _=> ?_;rw[U,zat (by simp)]
theorem qoO:FC 183 qst:=FC.mk (.cons zT .nil) (by intro ps R E B;obtain⟨a,b,rfl,rfl,h⟩:=B;exact⟨_,_,_,_,_,_,rfl,rfl,h⟩)
def qsy:D->ak×List UInt8
 | .agg [.int GE a,.int GE b,.int GE c,.str s]=>((a,b,c),s)
 |_=>((0,0,0),[])
theorem qfa{X}:FD X 182 qa9:=Ai (dec:=qsy) (c:=λa b=>lj a.1.1 a.1.2.1 a.1.2.2 b.1.1 b.1.2.1 b.1.2.2)
 (λcf=>FD.M6 Tryz.func182 (by rfl) (by rfl) λps R E h=>jZ (gI h)) (λ_=>rfl) fR (λx y=>vN x.1 y.1) (λ_=>⟨_,rfl⟩)
 (λx y=>FC.TJ qoO ⟨x,y,rfl,rfl,rfl⟩) ⟨_,Tryz.func183,by rfl,by rfl⟩
def PH(x:Td):D:= .agg [iE x.1.1,iE x.1.2.1,iE x.1.2.2,iE x.2.1.1,iE x.2.1.2.1,iE x.2.1.2.2,iE x.2.2.1.1,iE x.2.2.1.2.1,iE x.2.2.1.2.2,.str x.2.2.2.1,.bool x.2.2.2.2]
abbrev CW(z:Bool)(l:List Td):Obj:= .arr 186 z (l.map PH)
abbrev rsA(a:List ak)(l:List Pl)(s:List Td)(i:Int):S:=⟨93,[(0,cF a),(1,ew l),(5,.sl 0 0 (J s)),(6,iD i)],[(0,⟨0,Y,CW C s⟩)]⟩
abbrev rsB(a:List ak)(l:List Pl)(s:List Td)(i:Int)(h:Bool)(k:Int):S:=⟨93,[(0,cF a),(1,ew l),(5,.sl 0 0 (J s)),(6,iD i),(7,.d (.bool h)),(8,iD k)],[(0,⟨0,Y,CW C s⟩)]⟩
abbrev rsC(a:List ak)(l:List Pl)(L:List D)(n:Nat)(i k:Int):S:=⟨93,[(0,cF a),(1,ew l),(5,.sl 0 0 n),(6,iD i),(9,iD k)],[(0,⟨0,Y,.arr 186 C L⟩)]⟩
abbrev rsJ(a:List ak)(l:List Pl)(L:List D)(n:Nat)(i:Int):S:=⟨93,[(0,cF a),(1,ew l),(5,.sl 0 0 n),(6,iD i)],[(0,⟨0,Y,.arr 186 C L⟩)]⟩
def II s k:=CE (aa PH s) (Zs k)
def Nq s:=(0,AC 0 Y (Cs (186:I) C (aa PH s)))
def VD s:=[Nq s]
def tG l:=(1,jP l)
theorem qoP a l s i h k E:(bif ZaA k s then bif h then ob (Zv k) (E (AD,AS 93 (z8 a::tG l::CA s::ZQ i::(7,ZT)::vY k) (VD s))) else ob (ZaB k s) (ob (decide (Zs k<J (aa PH s))) (ob (bE PR (186:I) (II s k)) (ob (Lo i a) (ob (yT a i) (ob (Zv k) (E (AD,AS 93 (z8 a::tG l::CA s::ZQ i::(7,Do (IM (AM (xz (II s k) 0)==HR a i&&(AM (xz (II s k) 1)==Ja a i&&O)&&(AM (xz (II s k) 2)==I9 a i&&O))))::vY k) (VD s)))))))) else E (DD 2,AS 93 [z8 a,tG l,CA s,ZQ i,D8 h] (VD s)))=(aG [] [] 95 7 (rsB a l s i h k)) E:=by kernel_rfl
def qoQ:S->K (PX×S):=λs E=> ∃a l t i,s=rsB a l t i C 0/\(J t<=1000000/\0<=i/\i<J a)/\ ∀b,E (.exit 2,⟨93,[(0,cF a),(1,ew l),(5,.sl 0 0 (J t)),(6,iD i),(7,.d (.bool b))],[(0,⟨0,Y,CW C t⟩)]⟩)
def ZdW L:=[(0,AC 0 Y (Cs (186:I) C L))]
def ZdT L k:=[H9 L k,H8 L k,RD L k,Z9Z L k,we GE (AM (xz (nT L k) 4)),we GE (AM (xz (nT L k) 5)),we GE (AM (xz (nT L k) 6)),we GE (AM (xz (nT L k) 7)),we GE (AM (xz (nT L k) 8)),GT (Q3 (xz (nT L k) 9)),IM (RK (xz (nT L k) 10))]
def ZdU L k:=vc L (Zs k) (D.aY (BC (ZdT L k)) [Nk L k,Nj L k,Vo L k,Za1 L k,we GE (AM (xz (Zb L k) 4)),we GE (AM (xz (Zb L k) 5)),we GE (AM (xz (Zb L k) 6)),we GE (AM (xz (Zb L k) 7)),we GE (AM (xz (Zb L k) 8)),GT (Q3 (xz (Zb L k) 9)),IM (RK (xz (Zb L k) 10))])
def UP L k:=CE (ZdU L k) (Za k)
theorem qoR a l L n i k E:(bif ZF k then ob (jA k n) (ob (tA k L) (ob (bE PR (186:I) (nT L k)) (ob (Z9 k) (ob (wR k n) (ob (D9 k L) (ob (bE PR (186:I) (Zb L k)) (∃t r bh h B U,Zbk L k=Do (BC (Zj t::Zj r::Zk bh))::sM h B U/\Zn/\bif Z7t t r bh h B U then ob (Z9 k) (ob (Z9 k) (ob (wR k n) (ob (D9 k L) (ob (bE PR (186:I) (Zb L k)) (ob (jA k n) (ob (tA k L) (ob (bE PR (186:I) (nT L k)) (ob (jA k n) (ob (tA k L) (ob (bE PR (186:I) (nT L k)) (ob (wR k n) (ob (decide (Za k<J (ZdU L k))) (ob (bE PR (186:I) (UP L k)) (ob (Z9 k) (E (AD,AS 93 (z8 a::tG l::ZN n::ZQ i::Z7W k) [(0,AC 0 Y (Cs (186:I) C (vc (ZdU L k) (Za k) (D.aY (BC [we GE (AM (xz (UP L k) 0)),we GE (AM (xz (UP L k) 1)),we GE (AM (xz (UP L k) 2)),we GE (AM (xz (UP L k) 3)),we GE (AM (xz (UP L k) 4)),we GE (AM (xz (UP L k) 5)),we GE (AM (xz (UP L k) 6)),we GE (AM (xz (UP L k) 7)),we GE (AM (xz (UP L k) 8)),GT (Q3 (xz (UP L k) 9)),IM (RK (xz (UP L k) 10))]) (ZdT L k)))))])))))))))))))))) else E (DD 4,AS 93 (z8 a::tG l::ZN n::Fz i) (ZdW L))))))))) else E (DD 4,AS 93 (z8 a::tG l::ZN n::Fz i) (ZdW L)))=(aG [(98,mG)] [] 95 13 (rsC a l L n i k)) E:=by kernel_rfl
def qoS:S->K (PX×S):=λs E=> ∃a l,∃t,∃L n i k,s=rsC a l L n i k/\L=t.map PH/\((0<=k/\k<n)/\n<=1000001/\J t=n)/\ ∀h,J h=n->E (.exit 4,rsJ a l (h.map PH) n i)
def ZdY B h U:=[BC (we GE (HR B h)::we GE (Ja B h)::we GE (I9 B h)::Pd U h)]
def ZdX h U t B:=AS 93 (z8 h::tG U::CA t::ZQ B::(7,Do Z2)::Fy) (VD t)
theorem qoT a l s i E:(bif Z4o i a then bif Yn i l then∃B U t h,ZdX a l s i=ZdX B U t h/\(Vw t/\(0:Int)<=h/\h<nr B)/\ ∀b,bif b then ob (Zv h) (E (AD,AS 93 (z8 B::tG U::CA t::ZL h) (VD t))) else ob (Lo h B) (ob (yT B h) (ob (HQ h U) (ob (qG U h) (ob (gr (oK t) (J (aa PH t))&&aB (oK t+J (ZdY B h U)) 96) (ob (decide (Z7<=(↑(oK t+J (ZdY B h U)):Int)-(1:Int)/\(↑(oK t+J (ZdY B h U)):Int)-(1:Int)<=Z8)) (∃a l mH L n i k,AS 93 [z8 B,tG U,(5,IH 0 0 (oK t+J (ZdY B h U))),ZQ h,(9,Do (we GE ((↑(oK t+J (ZdY B h U)):Int)-(1:Int))))] [(0,AC 0 Y (Cs (186:I) C (ab (oK t) (aa PH t)++ZdY B h U)))]=AS 93 (z8 a::tG l::ZN n::ZQ i::Z7Z k) (ZdW L)/\L=aa PH mH/\(RE k n/\n<=1000001/\oK mH=n)/\ ∀t',oK t'=n->ob (Zv i) (E (AD,AS 93 (z8 a::tG l::ZN n::ZL i) (VD t'))))))))) else E (DD 0,AS 93 [CA s] (VD s)) else E (DD 0,AS 93 [CA s] (VD s)))=(aG [] [(7,ah (aV 95 7) qoQ),(13,ah (aV 95 13) qoS)] 95 3 (rsA a l s i)) E:=by kernel_rfl
def qoU:S->K (PX×S):=λs E=> ∃a l,s=rsA a l [] 0/\(J a<=1000000/\J l=J a)/\ ∀t,J t<=J a->E (.exit 0,⟨93,[(5,.sl 0 0 (J t))],[(0,⟨0,Y,CW C t⟩)]⟩)
def ZdZ h B:=AS 93 (z8 h::tG B::UH) [(0,AC 0 Y (Cs (186:I) C []))]
theorem qoV a l E:(∃h B,ZdZ a l=ZdZ h B/\(ll h/\fp B=dK h)/\ ∀t,oK t<=dK h->E (IH 0 0 (oK t),VD t))=(aO [] [(3,ah (aV 95 3) qoU)] 95 [cF a,ew l] []) E:=by kernel_rfl
def qoW:bc:=λps R E=> ∃a l,ps=[cF a,ew l]/\R=[]/\(J a<=1000000/\J l=J a)/\ ∀t,J t<=J a->E (.sl 0 0 (J t),[(0,⟨0,Y,CW C t⟩)])
def qoX:bc:=λps R E=> ∃l x y,ps=[.sl 0 0 (J l),.d (aF x),.d (aF y)]/\R=Fo C l/\J l<=1000000/\ ∀b,b=within l x y->E (.d (.bool b),Fo C l)
abbrev rpA(t:List Td)(o:List Pl)(i:Int):S:=⟨96,[(5,.sl 0 0 (J t)),(6,.sl 1 0 (J o)),(7,iD i)],[(0,⟨0,Y,CW C t⟩),(1,⟨0,Y,wo C o⟩)]⟩
abbrev rpB(t:List Td)(L:List D)(m:Nat)(i k:Int):S:=⟨96,[(5,.sl 0 0 (J t)),(6,.sl 1 0 m),(7,iD i),(10,iD k)],[(0,⟨0,Y,CW C t⟩),(1,⟨0,Y,.arr 108 C L⟩)]⟩
abbrev rpJ(t:List Td)(L:List D)(m:Nat)(i:Int):S:=⟨96,[(5,.sl 0 0 (J t)),(6,.sl 1 0 m),(7,iD i)],[(0,⟨0,Y,CW C t⟩),(1,⟨0,Y,.arr 108 C L⟩)]⟩
def Ze3(E:PX×S->Prop) t m i L:=E (DD 2,AS 96 [CA t,Ia m,sq i] [Nq t,(1,Ix L)])
def Ze0 L k:=[H9 L k,H8 L k,RD L k,Z9Z L k,we GE (AM (xz (nT L k) 4)),we GE (AM (xz (nT L k) 5)),GT (Q3 (xz (nT L k) 6)),IM (RK (xz (nT L k) 7))]
def Ze1 L k:=vc L (Zs k) (D.aY (BC (Ze0 L k)) [Nk L k,Nj L k,Vo L k,Za1 L k,we GE (AM (xz (Zb L k) 4)),we GE (AM (xz (Zb L k) 5)),GT (Q3 (xz (Zb L k) 6)),IM (RK (xz (Zb L k) 7))])
def Ze2 L k:=CE (Ze1 L k) (Za k)
theorem qoY t L m i k E:(bif ZF k then ob (jA k m) (ob (tA k L) (ob (bE PR (108:I) (nT L k)) (ob (Z9 k) (ob (wR k m) (ob (D9 k L) (ob (bE PR (108:I) (Zb L k)) (∃U r bh h B i',Zbk L k=Do (BC (Zj U::Zj r::Zk bh))::sM h B i'/\Zn/\bif Z7t U r bh h B i' then ob (Z9 k) (ob (Z9 k) (ob (wR k m) (ob (D9 k L) (ob (bE PR (108:I) (Zb L k)) (ob (jA k m) (ob (tA k L) (ob (bE PR (108:I) (nT L k)) (ob (jA k m) (ob (tA k L) (ob (bE PR (108:I) (nT L k)) (ob (wR k m) (ob (decide (Za k<J (Ze1 L k))) (ob (bE PR (108:I) (Ze2 L k)) (ob (Z9 k) (E (AD,AS 96 [CA t,Ia m,sq i,(10,ZG k)] [Nq t,(1,AC 0 Y (Cs (108:I) C (vc (Ze1 L k) (Za k) (D.aY (BC [we GE (AM (xz (Ze2 L k) 0)),we GE (AM (xz (Ze2 L k) 1)),we GE (AM (xz (Ze2 L k) 2)),we GE (AM (xz (Ze2 L k) 3)),we GE (AM (xz (Ze2 L k) 4)),we GE (AM (xz (Ze2 L k) 5)),GT (Q3 (xz (Ze2 L k) 6)),IM (RK (xz (Ze2 L k) 7))]) (Ze0 L k)))))])))))))))))))))) else Ze3 E t m i L))))))) else Ze3 E t m i L)=(aG [(98,mG)] [] 56 14 (rpB t L m i k)) E:=by kernel_rfl
def qoZ:S->K (PX×S):=λs E=> ∃t,∃o,∃L m i k,s=rpB t L m i k/\L=o.map bI/\((0<=k/\k<m)/\m<=1000001/\J o=m)/\ ∀h,J h=m->E (.exit 2,rpJ t (h.map bI) m i)
def Zea t i:=we GE (AM (xz (II t i) 8))
def Ze9 t i:=we GE (AM (xz (II t i) 7))
def Ze8 t i:=we GE (AM (xz (II t i) 6))
def Ze7 t i:=we GE (AM (xz (II t i) 5))
def Ze6 t i:=we GE (AM (xz (II t i) 4))
def Ze5 t i:=we GE (AM (xz (II t i) 3))
def Zeb t i:=[BC [Ze5 t i,Ze6 t i,Ze7 t i,Ze8 t i,Ze9 t i,Zea t i,GT (Q3 (xz (II t i) 9)),IM (RK (xz (II t i) 10))]]
def Zec o t i:=(↑(fp o+J (Zeb t i)):Int)-(1:Int)
def Zed t i:=[Do (BC [Ze5 t i,Ze6 t i,Ze7 t i])]
def Ze4 t o i:=CA t::(6,IH 1 0 (fp o))::ZR i
theorem qo0 t o i E:(bif ZaA i t then ob (ZaB i t) (ob (decide (Zs i<J (aa PH t))) (ob (bE PR (186:I) (II t i)) (bif AM (xz (II t i) 3)==(0:Int)&&(AM (xz (II t i) 4)==(0:Int)&&O)&&(AM (xz (II t i) 5)==(0:Int)&&O) then ob (Zv i) (E (AD,AS 96 (Ze4 t o i) (Nq t::RC o))) else∃l x y,qQ o::Do (BC [Ze8 t i,Ze9 t i,Zea t i])::Zed t i=qQ l::Do (fe x)::gW y/\Y0 o=Y0 l/\iB l/\ ∀b,b=within l x y->bif b then ob (Zv i) (E (AD,AS 96 (Ze4 t o i) (Nq t::RC l))) else∃h x,qQ o::Zed t i=qQ h::gW x/\Y0 l=Y0 h/\iB h/\bif decide (eJ h x>=(0:Int)) then ob (decide ((0:Int)<=eJ h x/\eJ h x<qa o)) (ob (Z7a h x) (ob (bE PR (108:I) (L7 h x)) (ob (decide ((0:Int)<=eJ h x/\eJ h x<qa o)) (ob (Z7a h x) (ob (bE PR (108:I) (L7 h x)) (ob (Zv i) (E (AD,AS 96 (Ze4 t o i) [Nq t,(1,AC 0 Y (Cs (108:I) C (vc (fI h) (dd (eJ h x)) (D.aY (BC [we GE (AM (xz (L7 h x) 0)),we GE (AM (xz (L7 h x) 1)),we GE (AM (xz (L7 h x) 2)),we GE (AM (xz (L7 h x) 3)),we GE (AM (xz (L7 h x) 4)),we GE (AM (xz (L7 h x) 5)),GT (Q3 (xz (L7 h x) 6)),IM (RK (xz (L7 h x) 7))]) [Ze5 t i,Ze6 t i,Ze7 t i,Ze8 t i,Ze9 t i,Zea t i,GT (Q3 (xz (II t i) 9)),IM (RK (xz (L7 h x) 7))]))))])))))))) else ob (gr (fp o) (sf h)&&aB (fp o+J (Zeb t i)) 72) (ob (decide (Z7<=Zec o t i/\Zec o t i<=Z8)) (∃B bC L m U k,AS 96 [CA t,(6,IH 1 0 (fp o+J (Zeb t i))),sq i,(10,Do (we GE (Zec o t i)))] [Nq t,(1,AC 0 Y (Cs (108:I) C (ab (fp o) (fI h)++Zeb t i)))]=AS 96 [CA B,Ia m,sq U,(10,Zl k)] [Nq B,(1,Ix L)]/\L=fI bC/\(RE k m/\m<=1000001/\fp bC=m)/\ ∀o',fp o'=m->ob (Zv U) (E (AD,AS 96 (CA B::Ia m::ZR U) (Nq B::RC o')))))))) else E (DD 0,AS 96 [(6,qQ o)] (wb o)))=(aG [(96,qoX),(97,YZ)] [(14,ah (aV 56 14) qoZ)] 56 4 (rpA t o i)) E:=by kernel_rfl
def qo1:S->K (PX×S):=λs E=> ∃t,s=rpA t [] 0/\J t<=1000000/\ ∀o,J o<=J t->E (.exit 0,⟨96,[(6,.sl 0 0 (J o))],[(0,⟨0,Y,wo C o⟩)]⟩)
def Zee h:=AS 96 (CA h::Z82) [Nq h,(1,Dj)]
theorem qsz a l E:(∃h U,[gC a,jP l]=[gC h,jP U]/\Zn/\(ll h/\fp U=dK h)/\ ∀t,oK t<=dK h-> ∃B,Zee t=Zee B/\Vw B/\ ∀o,fp o<=oK B->E (qQ o,wb o))=(aO [(95,qoW)] [(4,ah (aV 56 4) qo1)] 56 [cF a,ew l] []) E:=by kernel_rfl
def qo2:bc:=λps R E=> ∃a l,ps=[cF a,ew l]/\R=[]/\(J a<=1000000/\J l=J a)/\ ∀o,J o<=J a->E (.sl 0 0 (J o),[(0,⟨0,Y,wo C o⟩)])
theorem qkk x:bE PR 186 (PH x)=O:=by kernel_rfl
section
variable{X:XF}
theorem qo3:FD X 96 qoX:=qgx.weaken λps R E h=>by obtain⟨l,x,y,rfl,rfl,U,B⟩:=h;exact⟨C,l,x,y,rfl,rfl,U,B⟩
theorem qfb:LD X 95 7 (ah (aV 95 7) qoQ):=LD.wk .nil .nil
 (A:=List ak×List Pl×List Td×Int) (B:=Bool) (λa b k=>rsB a.1 a.2.1 a.2.2.1 a.2.2.2 b k) (λa=>J a.2.2.1) (λa _ _=>J a.2.2.1<=1000000/\0<=a.2.2.2/\a.2.2.2<J a.1)
 (λa x=> ∃b,x=(.exit 2,⟨93,[(0,cF a.1),(1,ew a.2.1),(5,.sl 0 0 (J a.2.2.1)),(6,iD a.2.2.2),(7,.d (.bool b))],[(0,⟨0,Y,CW C a.2.2.1⟩)]⟩))
 (by
  rintro⟨a,l,t,i⟩ b k E h0 C8 hm hn ho
  try dsimp only at*
  (rw[<-qoP];delta iF D8 Zs eM I9 Ja HR yT oH vK Lo II oK ZaB Nq VD Zz ZA vY ZT Zj Zl ZQ CA fI jP tG gC z8 Z8 Z7 Zv ZaA)
  simp only[zaa];refine b8 (λaZ=> ?_) λ_=>ho _ _ (λh=>by cases h) ⟨_,rfl⟩;have U:k.toNat<J t:=by omega
  rw[aA PH t _ U,aA aF a i.toNat (by omega)];exact az (λ_=>ar (by omega) (hn _ aZ hm)) λ_=>ar ⟨h0,aZ⟩ (ar (by first |exact U |simpa using U) (ao (qkk _) (ar hm.2 (ao (jG _) (ar (by omega) (hn _ aZ hm)))))))
 (by rintro s E ⟨a,l,t,i,rfl,h1,hp⟩;refine⟨(a,l,t,i),C,rfl,h1,?_⟩;rintro e s ⟨b,h⟩;cases h;exact hp b)
theorem qfc:LD X 95 13 (ah (aV 95 13) qoS):=LD.sw (.cons o8 .nil) .nil
 (A:=List ak×List Pl×Nat×Int) PH (λa L k=>rsC a.1 a.2.1 L a.2.2.1 a.2.2.2 k) (λa=>a.2.2.1) 4 (λa L=>rsJ a.1 a.2.1 L a.2.2.1 a.2.2.2)
 (by
  rintro⟨a,l,n,i⟩ o k E hk hN ho hex Pn;dsimp only at*
  (rw[<-qoR];delta ZdW Zj Zl ZQ Fz Zs nT Z9Z RD H8 H9 ZdT ZG Z7W ZM ZN fI jP tG eM gC z8 Za Zb Za1 Vo Nj Nk ZdU UP Z7t Zn Zk sM Zbf Zbk D9 wR Z8 Z7 Z9 tA jA ZF)
  refine b8 (λh=> ?_) λ_=>hex;obtain⟨x,y,e1,e2,e3,B⟩:=Pn h;rw[e1,e2];simp only[e3,zaa,zbi,ho]
  repeat' first |exact hex |exact B |refine ar (by omega) ?_ |refine ao (qkk _) ?_ |refine⟨_,_,_,_,_,_,rfl,rfl,b8 (λ_=> ?_) λ_=>hex⟩)
 (by rintro s E ⟨a,l,t,L,n,i,k,rfl,rfl,⟨h1,h2,U⟩,h⟩;exact⟨(a,l,n,i),t,k,rfl,h1,h2,U,h⟩)
theorem qfd:LD X 95 3 (ah (aV 95 3) qoU):=LD.wk .nil (.cons qfb (.cons qfc .nil))
 (A:=List ak×List Pl) (B:=List Td) (λa t i=>rsA a.1 a.2 t i) (λa=>J a.1) (λa i t=>(J a.1<=1000000/\J a.2=J a.1)/\J t<=i)
 (λa x=> ∃t:List Td,J t<=J a.1/\x=(.exit 0,⟨93,[(5,.sl 0 0 (J t))],[(0,⟨0,Y,CW C t⟩)]⟩))
 (by
  rintro⟨a,l⟩ t i E h0 dE ⟨U,ht⟩ hn ho
  try dsimp only at*
  (rw[<-qoT];delta RE ZdW Zj Zl Z7Z ZM ZN ZQ Z8 Z7 Zs fI ln Lm Ln HP Pd eM I9 Ja HR ZdY oK qG sf HQ yT oH vK Lo Nq VD Zz ZA ZL CA jP tG gC z8 Zv dK nr Vw Z5 Fy Z2 ZdX Yn Z4o)
  simp only[zaa,zav,zaI,zaE];have ex:=ho (.exit 0) _ (λh=>by cases h) ⟨t,by omega,rfl⟩;refine b8 (λaZ=>b8 (λ_=> ?_) λ_=>ex) λ_=>ex;refine⟨a,l,t,i,rfl,⟨by omega,h0,aZ⟩,λb=> ?_⟩;rw[aA aF a i.toNat (by omega),aA bI l i.toNat (by omega)];generalize a[i.toNat]=x;generalize l[i.toNat]=p;refine az (λ_=>ar (by omega) (hn t aZ ⟨U,by omega⟩)) λ_=>ar ⟨h0,aZ⟩ (ao (jG _) (ar ⟨h0,by omega⟩ (ao (fJ _) (ao ?_ (ar (by omega) ⟨a,l,t++[(x,p)],_,J t+1,i,_,rfl,bx PH t (x,p),⟨⟨by omega,by omega⟩,by omega,by simp⟩,λt' ht'=>ar (by omega) ?_⟩)))))
  ·rw[zac];exact⟨by simp,dw (by omega) (by omega)⟩
  rw[<-ht'];exact hn t' aZ ⟨U,by omega⟩)
 (by rintro s E ⟨a,l,rfl,U,hp⟩;refine⟨(a,l),[],rfl,⟨U,by simp⟩,?_⟩;rintro e s ⟨t,ht,h⟩;cases h;exact hp t ht)
theorem qo4:FD X 95 qoW:=IS .nil (.cons qfd .nil) (by
 intro ps R E hh;obtain⟨a,l,rfl,rfl,U,B⟩:=hh
 (rw[<-qoV];delta Nq VD oK dK fp ll Z5 Pk ZV UH fI jP tG eM gC z8 ZdZ)
 exact⟨a,l,rfl,U,λt h=>B t h⟩)
theorem qfe:LD X 56 14 (ah (aV 56 14) qoZ):=LD.sw (.cons o8 .nil) .nil
 (A:=List Td×Nat×Int) bI (λa L k=>rpB a.1 L a.2.1 a.2.2 k) (λa=>a.2.1) 2 (λa L=>rpJ a.1 L a.2.1 a.2.2)
 (by
  rintro⟨t,m,i⟩ o k E hk hN ho hex Pn;dsimp only at*
  (rw[<-qoY];delta Ix Nq Zj Zl sq Ia oK CA Ze3 Zs nT Z9Z RD H8 H9 Ze0 ZG Za Zb Za1 Vo Nj Nk Ze1 Ze2 Z7t Zn Zk sM Zbf Zbk D9 wR Z8 Z7 Z9 tA jA ZF)
  refine b8 (λh=> ?_) λ_=>hex;obtain⟨x,y,e1,e2,e3,B⟩:=Pn h;rw[e1,e2];simp only[e3,zaa,zbi,ho]
  repeat' first |exact hex |exact B |refine ar (by omega) ?_ |refine ao (fJ _) ?_ |refine⟨_,_,_,_,_,_,rfl,rfl,b8 (λ_=> ?_) λ_=>hex⟩)
 (by rintro s E ⟨t,o,L,m,i,k,rfl,rfl,⟨h1,h2,U⟩,h⟩;exact⟨(t,m,i),o,k,rfl,h1,h2,U,h⟩)
theorem qff:LD X 56 4 (ah (aV 56 4) qo1):=LD.wk (.cons qo3 (.cons Y3 .nil)) (.cons qfe .nil)
 (A:=List Td) (B:=List Pl) (λt o i=>rpA t o i) (λt=>J t) (λt i o=>J t<=1000000/\J o<=i)
 (λt x=> ∃o:List Pl,J o<=J t/\x=(.exit 0,⟨96,[(6,.sl 0 0 (J o))],[(0,⟨0,Y,wo C o⟩)]⟩))
 (by
  rintro t o i E h0 dE ⟨U,ho⟩ hn bF
  (rw[<-qo0];delta fI Ur wb Zz ZA ZR RE Ix Zj Zl Ia sq oK CA Z8 Zs II Zea Ze9 Ze8 Ze7 Ze6 Ze5 Zeb fp Zec Z7 sf L7 Z7a qa iB YO Y0 fO gA gD fP fQ fe gW Zed qQ RC Nq Ze4 Zv ZaB ZaA)
  simp only[zaa,zav,zaI,zaE];refine b8 (λaZ=> ?_) λ_=>bF _ _ (λh=>by cases h) ⟨o,by omega,rfl⟩;have bB:i.toNat<J t:=by omega
  rw[aA PH t _ bB];generalize t[i.toNat]=y;have no:qea (i+1) (E (.normal,rpA t o (i+1))):=ar (by omega) (hn o aZ ⟨U,by omega⟩);refine ar ⟨h0,aZ⟩ (ar bB (ao (qkk _) (az (λ_=>no) λ_=>⟨o,y.2.2.1,y.2.1,rfl,rfl,by omega,λb _=>az (λ_=>no) λ_=>⟨o,y.2.1,rfl,rfl,by omega,b8 (λhat=> ?_) λ_=>ao ?_ (ar (by omega) ⟨t,o++[y.2],_,J o+1,i,_,rfl,bx bI o y.2,⟨⟨by omega,by omega⟩,by omega,by simp⟩,λo' nk=>ar (by omega) ?_⟩)⟩⟩)))
  ·have Nn:(eJ o y.2.1).toNat<J o:=by
    rcases ur (λp:Pl=>p.1==y.2.1) o with⟨k,p,h2,h3,h4⟩| ⟨h2,h3⟩
    ·have hk:k<J o:=(zab.1 h2).1;have e:eJ o y.2.1=(k:Int):=h4;omega
    have e:eJ o y.2.1= -1:=h2;omega
   have hy:=hn (o.set (eJ o y.2.1).toNat (y.2.1,y.2.2.1,y.2.2.2.1,(o.getD (eJ o y.2.1).toNat ti).2.2.2)) aZ ⟨U,by simp;omega⟩;rw[jy Nn];generalize o.getD (eJ o y.2.1).toNat ti=q at*
   simp only[rpA,wo,CW,zbA,zbi] at hy;exact ar ⟨hat,by omega⟩ (ar Nn (ao (fJ _) (ar ⟨hat,by omega⟩ (ar Nn (ao (fJ _) (ar (by omega) hy))))))
  ·rw[zac];exact⟨by simp,dw (by omega) (by omega)⟩
  rw[<-nk];exact hn o' aZ ⟨U,by omega⟩)
 (by rintro s E ⟨t,rfl,U,hp⟩;refine⟨t,[],rfl,⟨U,by simp⟩,?_⟩;rintro e s ⟨o,ho,h⟩;cases h;exact hp o ho)
theorem qo5:FD X 56 qo2:=IS (.cons qo4 .nil) (.cons qff .nil) (by
 intro ps R E U;obtain⟨a,l,rfl,rfl,B,h⟩:=U
 (rw[<-qsz];delta fI Ur wb fp qQ oK Vw Dj Nq Z5 xD Af Z82 CA Zee dK ll Zn jP eM gC)
 exact⟨a,l,rfl,rfl,B,λt ht=>⟨t,rfl,by omega,λo ho=>h o (by omega)⟩⟩)
end
abbrev md3(l:List au)(p o:List Pl)(i:Int):S:=⟨78,[(0,ey l),(1,ew p),(5,.sl 0 0 (J o)),(6,iD i)],[(0,⟨0,Y,wo C o⟩)]⟩
abbrev md6(l:List au)(p o:List Pl)(i j:Int):S:=⟨78,[(0,ey l),(1,ew p),(5,.sl 0 0 (J o)),(6,iD i),(7,iD j)],[(0,⟨0,Y,wo C o⟩)]⟩
abbrev md9(l:List au)(p o:List Pl)(i j k:Int):S:=⟨78,[(0,ey l),(1,ew p),(5,.sl 0 0 (J o)),(6,iD i),(7,iD j),(8,iD k)],[(0,⟨0,Y,wo C o⟩)]⟩
def Si o:=(5,qQ o)
def nF l j k:=CE (D.gh (xz (su l j) 6)) (Zs k)
def Zek p i l j k:=[BC [HP p i,Ln p i,Lm p i,we GE (AM (xz (ln p i) 3)),we GE (AM (xz (ln p i) 4)),we GE (AM (xz (ln p i) 5)),GT (Q3 (xz (ln p i) 6)),IM (RK (xz (nF l j k) 8))]]
def Sj l j k:=AM (xz (nF l j k) 0)
noncomputable def Sk l j k:=bE PR (79:I) (nF l j k)
def Sl k l j:=decide ((0:Int)<=k/\k<(↑(J (D.gh (xz (su l j) 6))):Int))
def Zef k l j:=decide (k<(↑(J (D.gh (xz (su l j) 6))):Int))
theorem qo6 l p o i j k E:(ob (tB j l) (ob (nV l j) (bif Zef k l j then ob (tB j l) (ob (nV l j) (ob (Sl k l j) (ob (Sk l j k) (bif Sj l j k==(0:Int) then ob (tB j l) (ob (nV l j) (ob (Sl k l j) (ob (Sk l j k) (ob (HQ i p) (ob (qG p i) (bif AM (xz (nF l j k) 1)==AM (xz (ln p i) 0)&&(AM (xz (nF l j k) 2)==AM (xz (ln p i) 1)&&O)&&(AM (xz (nF l j k) 3)==AM (xz (ln p i) 2)&&O) then ob (HQ i p) (ob (qG p i) (ob (tB j l) (ob (nV l j) (ob (Sl k l j) (ob (Sk l j k) (ob (gr (fp o) (sf o)&&aB (fp o+J (Zek p i l j k)) 72) (ob (Zv k) (E (AD,AS 78 (iG l::tG p::(5,IH 0 0 (fp o+J (Zek p i l j k)))::ZQ i::sq j::vY k) [(0,AC 0 Y (Cs (108:I) C (ab (fp o) (fI o)++Zek p i l j k)))]))))))))) else ob (Zv k) (E (AD,AS 78 (iG l::tG p::Si o::ZQ i::sq j::vY k) (wb o))))))))) else ob (Zv k) (E (AD,AS 78 (iG l::tG p::Si o::ZQ i::sq j::vY k) (wb o))))))) else E (DD 4,AS 78 [iG l,tG p,Si o,ZQ i,sq j] (wb o)))))=(aG [] [] 55 9 (md9 l p o i j k)) E:=by kernel_rfl
def AtG(l:List au)(i:Int) g:=CE (l.map dp) i.toNat=dp g
def AtP(l:List Pl)(i:Int) x:=CE (l.map bI) i.toNat=bI x
def qo7:S->K (PX×S):=λs E=> ∃l p o i j x g,AtP p i x/\AtG l j g/\s=md9 l p o i j 0/\((0<=i/\i<J p)/\(0<=j/\j<J l)/\J o<=100000/\J g.ops<=1000)/\ ∀h,J h<=J o+J g.ops->E (.exit 4,md6 l p h i j)
theorem qo8 l p o i j E:(bif Ju j l then∃av U bC B h x g,AtP U B x/\AtG av h g/\AS 78 (iG l::tG p::Si o::ZQ i::sq j::Fy) (wb o)=AS 78 (iG av::tG U::Si bC::ZQ B::sq h::Fy) (wb bC)/\(((0:Int)<=B/\B<qa U)/\((0:Int)<=h/\h<wg av)/\fp bC<=100000/\Dk g<=1000)/\ ∀o',fp o'<=fp bC+Dk g->ob (Zv h) (E (AD,AS 78 (iG av::tG U::Si o'::ZQ B::ZR h) (wb o'))) else E (DD 2,AS 78 (iG l::tG p::Si o::Fz i) (wb o)))=(aG [] [(9,ah (aV 55 9) qo7)] 55 6 (md6 l p o i j)) E:=by kernel_rfl
def qo9:S->K (PX×S):=λs E=> ∃l p o i x,AtP p i x/\s=md6 l p o i 0/\((0<=i/\i<J p)/\J l<=1000000/\cK l<=1000/\J o<=10000)/\ ∀h,J h<=J o+cK l->E (.exit 2,md3 l p h i)
theorem qpa l p o i E:(bif Yn i p then∃B U bC h x,AtP U h x/\AS 78 (iG l::tG p::Si o::ZQ i::xD) (wb o)=AS 78 (iG B::tG U::Si bC::ZQ h::xD) (wb bC)/\(((0:Int)<=h/\h<qa U)/\sv B/\cK B<=1000/\fp bC<=10000)/\ ∀o',fp o'<=fp bC+cK B->ob (Zv h) (E (AD,AS 78 (iG B::tG U::Si o'::ZL h) (wb o'))) else E (DD 0,AS 78 [Si o] (wb o)))=(aG [] [(6,ah (aV 55 6) qo9)] 55 3 (md3 l p o i)) E:=by kernel_rfl
def qpb:S->K (PX×S):=λs E=> ∃l p,s=md3 l p [] 0/\(J p<=30/\J l<=1000000/\cK l<=30)/\ ∀o,J o<=1000->E (.exit 0,⟨78,[(5,.sl 0 0 (J o))],[(0,⟨0,Y,wo C o⟩)]⟩)
def Zem B h:=AS 78 (iG B::tG h::UH) [(0,Dj)]
theorem qsA l p E:(∃h B,Zem l p=Zem h B/\(fp B<=30/\sv h/\cK h<=30)/\ ∀o,O2 o->E (qQ o,wb o))=(aO [] [(3,ah (aV 55 3) qpb)] 55 [ey l,ew p] []) E:=by kernel_rfl
def qg5:bc:=λps R E=> ∃l p,ps=[ey l,ew p]/\R=[]/\(J p<=30/\J l<=1000000/\cK l<=30)/\ ∀o,J o<=1000->E (.sl 0 0 (J o),[(0,⟨0,Y,wo C o⟩)])
abbrev ofR(m:List au)(o:List aN)(nh nl:Nat)(A P H L:List D):List (Nat×En):=[(0,⟨0,Y,xR O m⟩),(1,⟨0,Y,.box 81 [.sl 2 0 0,.sl 3 0 0,.sl 4 0 0,.sl 5 0 0,.sl 6 0 0]⟩),(2,⟨0,Y,qT C []⟩),(3,⟨0,Y,wo C []⟩),(4,⟨0,Y,qnW C []⟩),(5,⟨0,Y,qnW C []⟩),(6,⟨0,Y,.arr 66 C []⟩),(7,⟨0,Y,.box 81 [.sl 8 0 (J o),.sl 9 0 0,.sl 10 0 nh,.sl 11 0 nl,.sl 12 0 0]⟩),(8,⟨0,Y,qT C o⟩),(9,⟨0,Y,wo C []⟩),(10,⟨0,Y,.arr 121 C H⟩),(11,⟨0,Y,.arr 121 C L⟩),(12,⟨0,Y,.arr 66 C []⟩),(13,⟨0,Y,.arr 49 C A⟩),(14,⟨0,Y,.arr 108 C P⟩)]
abbrev of7(m:List au)(o:List aN)(na np nh nl:Nat)(A P H L:List D)(i:Int):S:=⟨140,[(0,.sl 0 0 (J m)),(2,.ref 1 0 0),(3,.ref 7 0 0),(4,.sl 13 0 na),(5,.sl 14 0 np),(6,iD i)],ofR m o nh nl A P H L⟩
abbrev UQ(m:List au)(o:List aN)(na np nh nl:Nat)(A P H L:List D)(i:Int)(on:Bool)(k:Int):S:=⟨140,[(0,.sl 0 0 (J m)),(2,.ref 1 0 0),(3,.ref 7 0 0),(4,.sl 13 0 na),(5,.sl 14 0 np),(6,iD i),(7,.d (.bool on)),(8,iD k)],ofR m o nh nl A P H L⟩
abbrev qfg(m:List au)(o:List aN)(y:bq)(na np nh nl:Nat)(A P H L:List D)(i:Int)(on:Bool)(k j:Int):S:=⟨140,[(0,.sl 0 0 (J m)),(2,.ref 1 0 0),(3,.ref 7 0 0),(4,.sl 13 0 na),(5,.sl 14 0 np),(6,iD i),(7,.d (.bool on)),(8,iD k),(9,.ref 15 0 0),(10,iD j)],ofR m o nh nl A P H L++[(15,⟨0,Y,qov y⟩)]⟩
def ZeC:=(12,Yk)
def ZeF A P:=[ZeC,(13,vU A),(14,Ix P)]
def Sm H:=(10,mX H)
def Jz:=(9,Dj)
def JA o:=(8,Eh o)
def Zey:=[IH 12 0 0]
def Zex o:=IH 8 0 (gX o)
def ZeE o nh nl:=(7,AC 0 Y (H1 (81:I) (Zex o::Zdv::IH 10 0 nh::IH 11 0 nl::Zey)))
def JB:=(6,Yk)
def JC:=(5,Sd)
def JD:=(4,Sd)
def JE:=(3,Dj)
def JF:=(1,AC 0 Y (H1 (81:I) [IH 2 0 0,IH 3 0 0,IH 4 0 0,zY,IH 6 0 0]))
def JG m:=(0,AC 0 Y (Cs (31:I) O (ia m)))
def ZeG m o nh nl H L A P:=JG m::JF::zw::JE::JD::JC::JB::ZeE o nh nl::JA o::Jz::Sm H::(11,mX L)::ZeF A P
def ZeD A P y:=[ZeC,(13,vU A),(14,Ix P),(15,Zcp y)]
def PI np:=(5,IH 14 0 np)
def PJ na:=(4,IH 13 0 na)
def JH:=(3,So 7 0 0)
def JI:=(2,jB)
theorem qkl m o y na np nh nl A P H L i on k j E:(bif decide (j<Pa y) then bif on then ob (decide ((0:Int)<=j/\j<Pa y)) (ob (bE PR (27:I) (Zc7 y j)) (ob (Dg nl L&&aB (nl+J (Zc8 y j)) 40) (ob (Zv j) (E (AD,AS 140 [Al m,JI,JH,PJ na,PI np,ZQ i,D8 on,Ei k,(9,Pi.P.ref 15 0 0),(10,ZA j)] (JG m::JF::zw::JE::JD::JC::JB::(7,AC 0 Y (H1 (81:I) (Zex o::Zdv::Pi.P.sl 10 0 nh::Pi.P.sl 11 0 (nl+J (Zc8 y j))::Zey)))::JA o::Jz::Sm H::(11,AC 0 Y (Cs (121:I) C (ab nl L++Zc8 y j)))::ZeD A P y)))))) else E (DD 4,AS 140 (Al m::JI::JH::PJ na::PI np::ZQ i::D8 on::Zbr k) (ZeG m o nh nl H L A P)) else E (DD 4,AS 140 (Al m::JI::JH::PJ na::PI np::ZQ i::D8 on::Zbr k) (ZeG m o nh nl H L A P)))=(aG [] [] 28 20 (qfg m o y na np nh nl A P H L i on k j)) E:=by kernel_rfl
def qg6:S->K (PX×S):=λs E=> ∃m o y na np nh,∃g,∃A P H i on k,s=qfg m o y na np nh (J g) A P H (g.map eK) i on k 0/\(J y.cV<=1000/\J g<=100000)/\ ∀h,J h<=J g+1000->E (.exit 4,UQ m o na np nh (J h) A P H (h.map eK) i on k)
def ZeP g:=(11,AC 0 Y (Cs (121:I) C (uO g)))
def ZeO B h (g:List aT):=(7,AC 0 Y (H1 (81:I) (Zex B::Zdv::IH 10 0 h::IH 11 0 (J g)::Zey)))
def ZeJ m i k:=we GE (AM (xz (nF m i k) 3))
def ZeI m i k:=we GE (AM (xz (nF m i k) 2))
def ZeH m i k:=we GE (AM (xz (nF m i k) 1))
def ZeU m i k:=[(15,AC 0 Y (H1 (79:I) [Do (we GE (Sj m i k)),Do (ZeH m i k),Do (ZeI m i k),Do (ZeJ m i k),Do (we GE (AM (xz (nF m i k) 4))),Do (we GE (AM (xz (nF m i k) 5))),Do (we GE (AM (xz (nF m i k) 6))),Do (GT (Q3 (xz (nF m i k) 7))),Do (IM (RK (xz (nF m i k) 8))),Do (IR 2 (D.gh (xz (nF m i k) 9))),Do (we GE (AM (xz (nF m i k) 10))),Do (we GE (AM (xz (nF m i k) 11))),Do (we GE (AM (xz (nF m i k) 12))),Do (we GE (AM (xz (nF m i k) 13))),Do (we GE (AM (xz (nF m i k) 14))),Do (we GE (AM (xz (nF m i k) 15))),Do (GT (Q3 (xz (nF m i k) 16))),Do (IR 3 (D.gh (xz (nF m i k) 17)))]))]
def ZeM U h B:=[ZQ U,D8 h,Ei B,(9,So 15 0 0),(10,Do Z5)]
def ZeN ct B h bh U cN:=Al ct::JI::JH::PJ B::PI h::ZeM bh U cN
def ZeY m na np i on k o nh nl H L A P (E:PX×S->Prop):= ∃h B y lK lL lM g Dr Ds Dt bh ib cN,AS 140 (ZeN m na np i on k) (JG m::JF::zw::JE::JD::JC::JB::ZeE o nh nl::JA o::Jz::Sm H::(11,mX L)::ZeC::(13,vU A)::(14,Ix P)::ZeU m i k)=AS 140 (ZeN h lK lL bh ib cN) (JG h::JF::zw::JE::JD::JC::JB::ZeO B lM g::JA B::Jz::Sm Dt::ZeP g::ZeD Dr Ds y)/\(J (bq.cV y)<=1000/\J g<=100000)/\ ∀U,J U<=J g+1000->ob (Zv cN) (E (AD,AS 140 (Al h::JI::JH::PJ lK::PI lL::ZQ bh::D8 ib::vY cN) (JG h::JF::zw::JE::JD::JC::JB::ZeO B lM U::JA B::Jz::Sm Dt::ZeP U::ZeF Dr Ds)))
def ZeL m i k:=[BC [ZeH m i k,ZeI m i k,ZeJ m i k,Ma m i,L9 m i]]
def ZeT nh H m i k:=(10,AC 0 Y (Cs (121:I) C (ab nh H++ZeL m i k)))
def ZeS o nh m i k nl:=(7,AC 0 Y (H1 (81:I) (Zex o::Zdv::IH 10 0 (nh+J (ZeL m i k))::IH 11 0 nl::Zey)))
def ZeQ(E:PX×S->Prop):=λs0=> ∃h B y lK lL lM g Dr Ds Dt bh ib cN,s0=AS 140 (ZeN h lK lL bh ib cN) (JG h::JF::zw::JE::JD::JC::JB::ZeO B lM g::JA B::Jz::Sm Dt::ZeP g::ZeD Dr Ds y)/\(J (bq.cV y)<=1000/\J g<=100000)/\ ∀U,J U<=J g+1000->ob (Zv cN) (E (AD,AS 140 (Al h::JI::JH::PJ lK::PI lL::ZQ bh::D8 ib::vY cN) (JG h::JF::zw::JE::JD::JC::JB::ZeO B lM U::JA B::Jz::Sm Dt::ZeP U::ZeF Dr Ds)))
noncomputable def ZeZ on m i k nh H na np o nl L A P E:=bif on then bif Sj m i k !=(2:Int) then ob (Vr i m) (ob (Vq i m) (ob (nV m i) (ob (Dg nh H&&aB (nh+J (ZeL m i k)) 40) (ZeQ E (AS 140 (ZeN m na np i on k) (JG m::JF::zw::JE::JD::JC::JB::ZeS o nh m i k nl::JA o::Jz::ZeT nh H m i k::(11,mX L)::ZeC::(13,vU A)::(14,Ix P)::ZeU m i k)))))) else ZeY m na np i on k o nh nl H L A P E else ZeY m na np i on k o nh nl H L A P E
def ZeK m i k:=[BC [ZeH m i k,ZeI m i k,ZeJ m i k,we GE (AM (xz (nF m i k) 4)),we GE (AM (xz (nF m i k) 5)),we GE (AM (xz (nF m i k) 6)),GT (Q3 (xz (nF m i k) 7)),IM (RK (xz (nF m i k) 8))]]
def ZeV L na A m i k np P:=(11,mX L)::ZeC::(13,AC 0 Y (Cs (49:I) C (ab na A++[BC (Ma m i::L9 m i::Zk k)])))::(14,AC 0 Y (Cs (108:I) C (ab np P++ZeK m i k)))::ZeU m i k
def ZeR m na i k np on:=Al m::JI::JH::(4,IH 13 0 (na+J [BC (Ma m i::L9 m i::Zk k)]))::(5,IH 14 0 (np+J (ZeK m i k)))::ZeM i on k
def ZeW m na i k np on o nh nl H L A P (E:PX×S->Prop):= ∃h B y lK lL lM g Dr Ds Dt bh ib cN,AS 140 (ZeR m na i k np on) (JG m::JF::zw::JE::JD::JC::JB::ZeE o nh nl::JA o::Jz::Sm H::ZeV L na A m i k np P)=AS 140 (ZeN h lK lL bh ib cN) (JG h::JF::zw::JE::JD::JC::JB::ZeO B lM g::JA B::Jz::Sm Dt::ZeP g::ZeD Dr Ds y)/\(J (bq.cV y)<=1000/\J g<=100000)/\ ∀U,J U<=J g+1000->ob (Zv cN) (E (AD,AS 140 (Al h::JI::JH::PJ lK::PI lL::ZQ bh::D8 ib::vY cN) (JG h::JF::zw::JE::JD::JC::JB::ZeO B lM U::JA B::Jz::Sm Dt::ZeP U::ZeF Dr Ds)))
noncomputable def ZeX i m na A k np P on nh H o nl L E:=ob (Vr i m) (ob (Vq i m) (ob (nV m i) (ob (Dg na A&&aB (na+J [BC (Ma m i::L9 m i::Zk k)]) 24) (ob (Dg np P&&aB (np+J (ZeK m i k)) 72) (bif on then bif Sj m i k !=(2:Int) then ob (Vr i m) (ob (Vq i m) (ob (nV m i) (ob (Dg nh H&&aB (nh+J (ZeL m i k)) 40) (ZeQ E (AS 140 (ZeR m na i k np on) (JG m::JF::zw::JE::JD::JC::JB::ZeS o nh m i k nl::JA o::Jz::ZeT nh H m i k::ZeV L na A m i k np P)))))) else ZeW m na i k np on o nh nl H L A P E else ZeW m na i k np on o nh nl H L A P E)))))
theorem qkm m o na np nh nl A P H L i on k E:(ob (Vr i m) (ob (Vq i m) (ob (nV m i) (bif Zef k m i then ob (Vr i m) (ob (Vq i m) (ob (nV m i) (ob (Sl k m i) (ob (Sk m i k) (bif Sj m i k==(0:Int) then ZeX i m na A k np P on nh H o nl L E else bif Sj m i k==(1:Int) then bif on then ZeX i m na A k np P on nh H o nl L E else ZeZ on m i k nh H na np o nl L A P E else ZeZ on m i k nh H na np o nl L A P E))))) else E (DD 2,AS 140 (Al m::JI::JH::PJ na::PI np::Fz i) (ZeG m o nh nl H L A P))))))=(aG [] [(20,ah (aV 28 20) qg6)] 28 11 (UQ m o na np nh nl A P H L i on k)) E:=by kernel_rfl
structure Ar(x y z:Nat)(na np nh nl:Nat)(A P H L:List D):Prop where
 ex: ∃(a:List ak) (p:List Pl) (h g:List aT),(na=J a/\np=J p/\nh=J h/\nl=J g)/\(A=a.map aF/\P=p.map bI/\H=h.map eK/\L=g.map eK)/\J a=J p/\J a<=x/\J h<=y/\J g<=z
def qg7:S->K (PX×S):=λs E=> ∃m o na np nh nl A P H L i on n g,AtG m i g/\s=UQ m o na np nh nl A P H L i on 0/\(Ar n n (1000*n) na np nh nl A P H L/\n+J g.ops<=30/\(0<=i/\i<J m)/\ ∀y∈g.ops,J y.cV<=1000)/\
 ∀U B h iH A' P' H' L',Ar (n+J g.ops) (n+J g.ops) (1000*(n+J g.ops)) U B h iH A' P' H' L'->E (.exit 2,of7 m o U B h iH A' P' H' L' i)
def Zf1 g:= ∀y,y∈au.ops g->J (bq.cV y)<=1000
def Zf0 b (l:List aN) x:=b=decide (x∈l)
theorem qpc m o na np nh nl A P H L i E:(bif decide (i<wg m) then ob (Vr i m) (ob (Vq i m) (ob (nV m i) (∃l x,[wm o,Pi.P.d (Mb m i)]=wm l::rR x/\zu o=zu l/\Iu l/\ ∀b,Zf0 b l x-> ∃h bC lK lL lM U Dr Ds Dt Sc B on n g,AtG h B g/\AS 140 (Al m::JI::JH::PJ na::PI np::ZQ i::D8 b::Fy) (JG m::JF::zw::JE::JD::JC::JB::ZeE o nh nl::JA l::Jz::Sm H::(11,mX L)::ZeF A P)=AS 140 (Al h::JI::JH::PJ lK::PI lL::ZQ B::D8 on::Fy) (ZeG h bC lM U Dt Sc Dr Ds)/\(Ar n n (1000*n) lK lL lM U Dr Ds Dt Sc/\n+Dk g<=30/\((0:Int)<=B/\B<wg h)/\Zf1 g)/\ ∀uP uQ uR iH A' P' H' L',Ar (n+Dk g) (n+Dk g) (1000*(n+Dk g)) uP uQ uR iH A' P' H' L'->ob (Zv B) (E (AD,AS 140 (Al h::JI::JH::PJ uP::PI uQ::ZL B) (ZeG h bC uR iH H' L' A' P')))))) else E (DD 0,AS 140 [Al m,JI,JH,PJ na,PI np] (ZeG m o nh nl H L A P)))=(aG [(14,RZ)] [(11,ah (aV 28 11) qg7)] 28 7 (of7 m o na np nh nl A P H L i)) E:=by kernel_rfl
abbrev OfB:=Nat×Nat×Nat×Nat×List D×List D×List D×List D
structure OfP where
 m:List au
 o:List aN
 y:bq
 na:Nat
 np:Nat
 nh:Nat
 A:List D
 P:List D
 H:List D
 i:Int
 on:Bool
 k:Int
 g:List aT
theorem qbc{n b:Nat}{z:D}(B:n<=1000000000000)(h:b<=100):(gr n n&&aB (n+J [z]) b)=O:=by have:=fy (n:=n) (l:=ee n z) (z:=z) (b:=b) rfl (by simp) B h;rwa [zbp] at this
section
variable{x y z na np nh nl:Nat}{A P H L:List D}
theorem Ar.told(h:Ar x y z na np nh nl A P H L) a p:Ar (x+1) y z (na+1) (np+1) nh nl (ab na A++[aF a]) (ab np P++[bI p]) H L:=by obtain⟨a',B,h',g',⟨rfl,rfl,rfl,rfl⟩,⟨rfl,rfl,rfl,rfl⟩,h1,h2,h3,U⟩:=h;exact⟨a'++[a],B++[p],h',g',⟨by simp,by simp,rfl,rfl⟩,⟨bx ..,bx ..,rfl,rfl⟩,by simp[h1],by grind,h3,U⟩
theorem Ar.qg8(h:Ar x y z na np nh nl A P H L) d:Ar x (y+1) z na np (nh+1) nl A P (ab nh H++[eK d]) L:=by obtain⟨a',B,h',g',⟨rfl,rfl,rfl,rfl⟩,⟨rfl,rfl,rfl,rfl⟩,h1,h2,h3,U⟩:=h;exact⟨a',B,h'++[d],g',⟨rfl,rfl,by simp,rfl⟩,⟨rfl,rfl,bx ..,rfl⟩,h1,h2,by grind,U⟩
theorem Ar.mono{x' U B}(h:Ar x y z na np nh nl A P H L)(h1:x<=x')(h2:y<=U)(h3:z<=B):Ar x' U B na np nh nl A P H L:=by obtain⟨a,p,b,g,e1,e2,e3,e4,e5,e6⟩:=h;exact⟨a,p,b,g,e1,e2,e3,by omega,by omega,by omega⟩
theorem Ar.gs(h:Ar x y z na np nh nl A P H L): ∃g,nl=J g/\L=g.map eK/\J g<=z:=by obtain⟨a,p,b,g,e1,e2,e3,e4,U,B⟩:=h;grind
theorem Ar.len(h:Ar x y z na np nh nl A P H L):(na<=x/\np<=x/\nh<=y)/\na=J A/\np=J P/\nh=J H:=by obtain⟨a,p,b,g,e1,⟨rfl,rfl,rfl,rfl⟩,B⟩:=h;simp;omega
end
section
variable{X:XF}
theorem qfh:LD X 55 9 (ah (aV 55 9) qo7):=LD.wk .nil .nil
 (A:=List au×List Pl×Nat×Int×Int×Pl×au) (B:=List Pl) (λa o k=>md9 a.1 a.2.1 o a.2.2.2.1 a.2.2.2.2.1 k) (λa=>J a.2.2.2.2.2.2.ops)
 (λa k o=>(AtP a.2.1 a.2.2.2.1 a.2.2.2.2.2.1/\AtG a.1 a.2.2.2.2.1 a.2.2.2.2.2.2/\(0<=a.2.2.2.1/\a.2.2.2.1<J a.2.1)/\(0<=a.2.2.2.2.1/\a.2.2.2.2.1<J a.1)/\a.2.2.1<=100000/\J a.2.2.2.2.2.2.ops<=1000)/\J o<=a.2.2.1+k)
 (λa x=> ∃o':List Pl,J o'<=a.2.2.1+J a.2.2.2.2.2.2.ops/\x=(.exit 4,md6 a.1 a.2.1 o' a.2.2.2.1 a.2.2.2.2.1))
 (by
  rintro⟨l,p,n,i,j,x,g⟩ o k E h0 C8 ⟨hc,ho⟩ hn bF;dsimp only at*
  obtain⟨hx,hg,hi,hj,uo,qbd⟩:=id hc
  (rw[<-qo6];delta fI Ur wb fp qQ Si Zz ZA vY Zj Zl sq ZQ jP tG ia jf iG Z8 Z7 Zv Zs su nF ln Lm Ln HP Zek sf qG HQ Sj Sk Sl Zef nV kH tB)
  rw[hx,hg];have u6:D.gh (xz (dp g) 6)=g.ops.map eX:=rfl;rw[u6];simp only[zaa];refine ar hj (ao (mS g) (b8 (λU=> ?_) λ_=>bF _ _ (λh=>by cases h) ⟨o,by omega,rfl⟩));rw[aA eX g.ops k.toNat (by omega)];generalize g.ops[k.toNat]=y;have no:=hn o U ⟨hc,by omega⟩;have ye:=hn (o++[(x.1,x.2.1,x.2.2.1,y.dir)]) U ⟨hc,by simp;omega⟩;have t1:ab (J o) (o.map bI)++[bI (x.1,x.2.1,x.2.2.1,y.dir)]=(o++[(x.1,x.2.1,x.2.2.1,y.dir)]).map bI:=bx bI o _;simp only[md9,wo,zaf] at ye;rw[<-t1] at ye;exact ar hj (ao (mS g) (ar ⟨h0,U⟩ (ao (D3 y) (az (λ_=>ar hj (ao (mS g) (ar ⟨h0,U⟩ (ao (D3 y) (ar hi (ao (fJ x) (az (λ_=>ar hi (ao (fJ x) (ar hj (ao (mS g) (ar ⟨h0,U⟩ (ao (D3 y) (ao (qbc (by omega) (by decide)) (ar (by omega) ye)))))))) λ_=>ar (by omega) no))))))) λ_=>ar (by omega) no)))))
 (by rintro s E ⟨l,p,o,i,j,x,g,hx,hg,rfl,h1,hp⟩;refine⟨(l,p,J o,i,j,x,g),o,rfl,⟨⟨hx,hg,h1⟩,by simp⟩,?_⟩;grind)
theorem qfi:LD X 55 6 (ah (aV 55 6) qo9):=LD.wk .nil (.cons qfh .nil)
 (A:=List au×List Pl×Nat×Int×Pl) (B:=List Pl) (λa o j=>md6 a.1 a.2.1 o a.2.2.2.1 j) (λa=>J a.1)
 (λa j o=>(AtP a.2.1 a.2.2.2.1 a.2.2.2.2/\(0<=a.2.2.2.1/\a.2.2.2.1<J a.2.1)/\J a.1<=1000000/\cK a.1<=1000/\a.2.2.1<=10000)/\J o<=a.2.2.1+cK (a.1.take j.toNat))
 (λa x=> ∃U:List Pl,J U<=a.2.2.1+cK a.1/\x=(.exit 2,md3 a.1 a.2.1 U a.2.2.2.1))
 (by
  rintro⟨l,p,n,i,x⟩ o j E h0 J0 ⟨hc,ho⟩ hn bF;dsimp only at*
  obtain⟨hx,hi,hl,qbd,uo⟩:=id hc
  (rw[<-qo8];delta Zj Zl ZQ Fz Zz ZA ZR Z8 Z7 Zv Dk fp wg qa fI Ur wb Z5 Fy sq qQ Si jP tG ia jf iG kH Ju)
  have h1:=iX l j.toNat;rw[zaa];refine b8 (λaZ=> ?_) λ_=>bF _ _ (λh=>by cases h) ⟨o,by omega,rfl⟩;have Nn:j.toNat<J l:=by omega
  have h2:=kc Nn;have h3:=iX l (j.toNat+1);exact⟨l,p,o,i,j,x,l[j.toNat],hx,aA _ _ _ Nn,rfl,⟨hi,⟨h0,aZ⟩,by omega,by omega⟩,λU nk=>ar (by omega) (hn U aZ ⟨hc,by rw[show(j+1).toNat=j.toNat+1 by omega];omega⟩)⟩)
 (by rintro s E ⟨l,p,o,i,x,hx,rfl,h1,hp⟩;refine⟨(l,p,J o,i,x),o,rfl,⟨⟨hx,h1⟩,by simp⟩,?_⟩;grind)
theorem qfj:LD X 55 3 (ah (aV 55 3) qpb):=LD.wk .nil (.cons qfi .nil)
 (A:=List au×List Pl) (B:=List Pl) (λa o i=>md3 a.1 a.2 o i) (λa=>J a.2)
 (λa i o=>(J a.2<=30/\J a.1<=1000000/\cK a.1<=30)/\J o<=30*i)
 (λ_ x=> ∃o:List Pl,J o<=1000/\x=(.exit 0,⟨78,[(5,.sl 0 0 (J o))],[(0,⟨0,Y,wo C o⟩)]⟩))
 (by
  rintro⟨l,p⟩ o i E h0 dE ⟨U,ho⟩ hn bF;dsimp only at*
  (rw[<-qpa];delta Zz ZA ZL Z8 Z7 Zv fp sv qa fI Ur wb Z5 xD Zj Zl ZQ qQ Si jP tG ia jf iG sf Yn)
  rw[zaa];refine b8 (λaZ=> ?_) λ_=>bF _ _ (λh=>by cases h) ⟨o,by omega,rfl⟩;exact⟨l,p,o,i,p[i.toNat]'(by omega),aA _ _ _ (by omega),rfl,⟨⟨h0,aZ⟩,U.2.1,by omega,by omega⟩,λo' nk=>ar (by omega) (hn o' aZ ⟨U,by omega⟩)⟩)
 (by rintro s E ⟨l,p,rfl,U,hp⟩;refine⟨(l,p),[],rfl,⟨U,by simp⟩,?_⟩;grind)
theorem qkn:FD X 55 qg5:=IS .nil (.cons qfj .nil) (by
 intro ps R E h;obtain⟨l,p,rfl,rfl,U,B⟩:=h
 (rw[<-qsA];delta fI Ur wb fp qQ O2 sv Dj Z5 Pk ZV UH jP tG ia jf iG Zem)
 grind)
theorem qbe:LD X 28 20 (ah (aV 28 20) qg6):=LD.wk .nil .nil
 (A:=OfP) (B:=List aT) (λa g j=>qfg a.m a.o a.y a.na a.np a.nh (J g) a.A a.P a.H (g.map eK) a.i a.on a.k j) (λa=>J a.y.cV)
 (λa j g=>(J a.y.cV<=1000/\J a.g<=100000)/\J g<=J a.g+j)
 (λa x=> ∃g':List aT,J g'<=J a.g+1000/\x=(.exit 4,UQ a.m a.o a.na a.np a.nh (J g') a.A a.P a.H (g'.map eK) a.i a.on a.k))
 (by
  rintro a g j E h0 J0 ⟨hc,hg⟩ hn ho
  (rw[<-qkl];delta Ix vU Yk ZeC ZeF mX Sm Dj Jz wj Eh JA Zey Zdv gX Zex ZeE JB Sd JC JD JE Jy zw zY JF ia JG ZeG Zj Zl Ei Zbr Z8k DZ D0 D1 Jk LJ Jl LK LL Fs Jm Jn Jo Jp Jq Cf Cg Ch D2 Zcp ZeD Zz ZA iF D8 ZQ PI PJ JH jB JI Ea Al Z8 Z7 Zv Zs Zc7 Zc8 Dg Pa)
  simp only[zaa];have hx:=ho (.exit 4) _ (λh=>by cases h) ⟨g,by omega,rfl⟩;refine b8 (λaZ=> ?_) λ_=>hx;rw[aA bX a.y.cV j.toNat (by omega)];have U:=hn (g++[(a.y.node,a.y.cV[j.toNat])]) aZ ⟨hc,by simp;omega⟩;simp only[qfg,ofR,zaf] at U;rw[<-bx] at U;exact az (λ_=>ar ⟨h0,aZ⟩ (ao (ph _) (ao (qbc (by omega) (by decide)) (ar (by omega) U)))) λ_=>hx)
 (by rintro s E ⟨m,o,y,na,np,nh,g,A,P,H,i,on,k,rfl,h1,hp⟩;refine⟨⟨m,o,y,na,np,nh,A,P,H,i,on,k,g⟩,g,rfl,⟨h1,by simp⟩,?_⟩;grind)
theorem qbf:LD X 28 11 (ah (aV 28 11) qg7):=LD.wk .nil (.cons qbe .nil)
 (A:=List au×List aN×Int×Bool×Nat×au) (B:=OfB) (λa b k=>UQ a.1 a.2.1 b.1 b.2.1 b.2.2.1 b.2.2.2.1 b.2.2.2.2.1 b.2.2.2.2.2.1 b.2.2.2.2.2.2.1 b.2.2.2.2.2.2.2 a.2.2.1 a.2.2.2.1 k) (λa=>J a.2.2.2.2.2.ops)
 (λa k b=>(AtG a.1 a.2.2.1 a.2.2.2.2.2/\a.2.2.2.2.1+J a.2.2.2.2.2.ops<=30/\(0<=a.2.2.1/\a.2.2.1<J a.1)/\ ∀y∈a.2.2.2.2.2.ops,J y.cV<=1000)/\Ar (a.2.2.2.2.1+k.toNat) (a.2.2.2.2.1+k.toNat) (1000*(a.2.2.2.2.1+k.toNat)) b.1 b.2.1 b.2.2.1 b.2.2.2.1 b.2.2.2.2.1 b.2.2.2.2.2.1 b.2.2.2.2.2.2.1 b.2.2.2.2.2.2.2)
 (λa x=> ∃na np nh nl A P H L,Ar (a.2.2.2.2.1+J a.2.2.2.2.2.ops) (a.2.2.2.2.1+J a.2.2.2.2.2.ops) (1000*(a.2.2.2.2.1+J a.2.2.2.2.2.ops)) na np nh nl A P H L/\x=(.exit 2,of7 a.1 a.2.1 na np nh nl A P H L a.2.2.1))
 (by
  rintro⟨m,o,i,on,n,g⟩ ⟨na,np,nh,nl,A,P,H,L⟩ k E h0 C8 ⟨hc,hR⟩ hn ho;dsimp only at*
  (rw[<-qkm];delta Ix vU Yk ZeC ZeF mX Sm Dj Jz wj Eh JA Zey Zdv gX Zex ZeE JB Sd JC JD JE Jy zw zY JF ia JG ZeG Zj Zl ZQ Fz PI PJ JH jB JI Ea Al Zz ZA vY iF D8 Z8 Z7 Zv Z8k DZ D0 D1 Jk LJ Jl LK LL Fs Jm Jn Jo Jp Jq Cf Cg Ch D2 Zcp ZeD uO ZeP ZeO Zs su nF ZeJ ZeI ZeH Sj ZeU Z5 Ei ZeM ZeN ZeY L9 Ma ZeL ZeT ZeS ZeQ Dg nV kH Vq wg Vr ZeZ ZeK Zk ZeV ZeR ZeW ZeX Sk Sl Zef)
  obtain⟨hg,hN,jN,hd⟩:=id hc;rw[hg];have u6:D.gh (xz (dp g) 6)=g.ops.map eX:=rfl;rw[u6];simp only[zaa];have U:i.toNat<J m:=by omega
  have xg:=mS g;refine ar jN (ar U (ao xg (b8 (λaZ=> ?_) λ_=>ho _ _ (λh=>by cases h) ⟨na,np,nh,nl,A,P,H,L,hR.mono (by omega) (by omega) (by omega),rfl⟩)));have bB:k.toNat<J g.ops:=by omega
  have hdy:=hd _ (zay bB);rw[aA eX g.ops _ bB];generalize g.ops[k.toNat]=y at*
  have r6:=D3 y;have hkm:0<=k/\k<(J g.ops:Int):=⟨h0,aZ⟩
  have Qk:=hR.len;obtain⟨d,rfl,rfl,JL⟩:=hR.gs;have nx: ∀{na np nh:Nat} {A P H:List D} (d':List aT),J d'<=J d+1000->Ar (n+k.toNat+1) (n+k.toNat+1) (1000*(n+k.toNat)) na np nh (J d) A P H (d.map eK)->E (.normal,UQ m o na np nh (J d') A P H (d'.map eK) i on (k+1)):=λd' Kl h=>hn (_,_,_,_,_,_,_,_) aZ ⟨hc,by obtain⟨a,p,b,q,⟨e1,e2,e3,e4⟩,⟨f1,f2,f3,f4⟩,l1,l2,l3,l4⟩:=h;exact⟨a,p,b,d',⟨e1,e2,e3,rfl⟩,⟨f1,f2,f3,rfl⟩,l1,by omega,by omega,by omega⟩⟩;refine ar jN (ar U (ao xg (ar hkm (ao r6 (zp (λ_=> ?_) λ_=>zp (λ_=>az (λ_=> ?_) λ_=> ?_) λ_=> ?_)))))
  all_goals try refine ar jN (ar U (ao xg (ao (fy rfl Qk.2.1.symm (by omega) (by decide)) (ao (fy rfl Qk.2.2.1.symm (by omega) (by decide)) ?_))))
  all_goals refine az (λ_=>az (λ_=>ar jN (ar U (ao xg (ao (fy rfl Qk.2.2.2.symm (by omega) (by decide)) ?_)))) λ_=> ?_) λ_=> ?_
  all_goals exact⟨m,o,y,_,_,_,d,_,_,_,i,on,k,rfl,⟨hdy,by omega⟩,λd' Kl=>ar (by omega) (nx d' Kl (by first |exact(hR.told (g.s.1,g.s.2,k) (Cr y)).qg8 (y.node,g.s)|exact(hR.told (g.s.1,g.s.2,k) (Cr y)).mono (by omega) (by omega) (by omega)|exact(hR.qg8 (y.node,g.s)).mono (by omega) (by omega) (by omega)|exact hR.mono (by omega) (by omega) (by omega)))⟩)
 (by rintro s E ⟨m,o,na,np,nh,nl,A,P,H,L,i,on,n,g,hg,rfl,⟨h1,h2,h3,h4⟩,hp⟩;refine⟨(m,o,i,on,n,g),(na,np,nh,nl,A,P,H,L),rfl,⟨⟨hg,h2,h3,h4⟩,h1⟩,?_⟩;grind)
end
def qpd:S->K (PX×S):=λs E=> ∃m o,s=of7 m o 0 0 0 0 [] [] [] [] 0/\(J m<=1000000/\J o<=1000000/\cK m<=30/\ ∀g∈m,∀y∈g.ops,J y.cV<=1000)/\ ∀na np nh nl A P H L,Ar 30 30 30000 na np nh nl A P H L->E (.exit 0,⟨140,[(0,.sl 0 0 (J m)),(2,.ref 1 0 0),(3,.ref 7 0 0),(4,.sl 13 0 na),(5,.sl 14 0 np)],ofR m o nh nl A P H L⟩)
def Zf2 h B:=AS 140 (Al h::JI::JH::(4,IH 13 0 0)::(5,IH 14 0 0)::Pk) [JG h,JF,zw,JE,JD,JC,JB,(7,AC 0 Y (H1 (81:I) (Zex B::Zdv::IH 10 0 0::IH 11 0 0::Zey))),JA B,Jz,(10,Sd),(11,Sd),ZeC,(13,xH),(14,Dj)]
def Zf3 h:=Do (IR 7 (ab (J h) (ia h)))
theorem qsB l E:(∃av,zx l=zx av/\Zn/\FI av/\ ∀m,List.Sublist m av-> ∃l,[Zf3 m]=zx l/\Zn/\sv l/\ ∀o,jg o=J l-> ∃l,[Do (IR 4 (Uz o))]=[Do (IR 4 (aa dX l))]/\Zn/\FM l/\ ∀o,gX o<=jg l-> ∃ct bC,Zf2 m o=Zf2 ct bC/\(sv ct/\Iu bC/\cK ct<=30/\ ∀g,g∈ct->Zf1 g)/\ ∀na np nh nl A P H L,Ar 30 30 30000 na np nh nl A P H L-> ∃a l,[Pi.P.d (IR 3 (ab na A)),Pi.P.d (IR 8 (ab np P))]=[gC a,jP l]/\Zn/\(ll a/\fp l=dK a)/\ ∀o,fp o<=dK a-> ∃l p,[Zf3 ct,Pi.P.d (IR 8 (ab (fp o) (fI o)))]=[jf l,jP p]/\Zn/\(fp p<=30/\sv l/\cK l<=30)/\ ∀o,O2 o-> ∃h g,[Pi.P.d (IR 5 (ab nh H)),Pi.P.d (IR 5 (ab nl L))]=[qL h,qL g]/\Zn/\(y8 h/\y8 g)/\ ∀U,dK U<=J h-> ∃l v,[Pi.P.d (IR 8 (ab (fp o) (fI o))),PC U]=[jP l,gC v]/\Zn/\(O2 l/\ll v)/\ ∀B,J B<=1000->E (Pi.P.d (BC [IR 2 (ab (gX bC) (aa bX bC)),IR 8 (ab (fp o) (fI o)),IR 5 (ab nh H),IR 5 (ab nl L),IR 6 (ab (J B) (aa fV B))]),[]))=(aO [(54,qnB),(18,qol),(17,qon),(56,qo2),(55,qg5),(58,qgL),(57,RG)] [(7,ah (aV 28 7) qpd)] 28 [ey l] []) E:=by kernel_rfl
def SmW l:=FI l/\cK l<=30/\ ∀g∈l,∀y∈g.ops,J y.cV<=1000
def qg9:bc:=λps R E=> ∃l,ps=[ey l]/\R=[]/\SmW l/\ ∀o p x h g,J h<=30->J g<=30000->E (.d (.agg [.sl 2 o,.sl 8 p,.sl 5 (h.map eK),.sl 5 (g.map eK),.sl 6 x]),[])
theorem qbg{a b}(h:a.Sublist b):cK a<=cK b:=by
 induction h with
 |slnil=>exact zag _
 |cons _ _ ih=>rw[fF];omega
 |cons_cons _ _ ih=>rw[fF,fF];omega
section
variable{X:XF}
theorem qfk:LD X 28 7 (ah (aV 28 7) qpd):=LD.wk (.cons Pz .nil) (.cons qbf .nil)
 (A:=List au×List aN) (B:=OfB) (λa b i=>of7 a.1 a.2 b.1 b.2.1 b.2.2.1 b.2.2.2.1 b.2.2.2.2.1 b.2.2.2.2.2.1 b.2.2.2.2.2.2.1 b.2.2.2.2.2.2.2 i) (λa=>J a.1)
 (λa i b=>(J a.1<=1000000/\J a.2<=1000000/\cK a.1<=30/\ ∀g∈a.1,∀y∈g.ops,J y.cV<=1000)/\Ar (cK (a.1.take i.toNat)) (cK (a.1.take i.toNat)) (1000*cK (a.1.take i.toNat)) b.1 b.2.1 b.2.2.1 b.2.2.2.1 b.2.2.2.2.1 b.2.2.2.2.2.1 b.2.2.2.2.2.2.1 b.2.2.2.2.2.2.2)
 (λa x=> ∃na np nh nl A P H L,Ar 30 30 30000 na np nh nl A P H L/\x=(.exit 0,⟨140,[(0,.sl 0 0 (J a.1)),(2,.ref 1 0 0),(3,.ref 7 0 0),(4,.sl 13 0 na),(5,.sl 14 0 np)],ofR a.1 a.2 nh nl A P H L⟩))
 (by
  rintro⟨m,o⟩ ⟨na,np,nh,nl,A,P,H,L⟩ i E h0 dE ⟨U,hR⟩ hn ho
  try dsimp only at*
  (rw[<-qpc];delta Zz ZA ZL Z8 Z7 Zv Zf1 Dk Ix vU Yk ZeC ZeF mX Sm Dj Jz wj Eh JA Zey Zdv gX Zex ZeE JB Sd JC JD JE Jy zw zY JF ia JG ZeG Z5 Fy iF D8 Zj Zl ZQ PI PJ JH jB JI Ea Al Zf0 Iu zu yZ y5 wQ rR Zs su L9 Ma Mb wm nV kH Vq wg Vr)
  have h1:=iX m i.toNat;have hN:=U.2.2.1;refine b8 (λaZ=> ?_) λ_=>ho _ _ (λh=>by cases h) ⟨na,np,nh,nl,A,P,H,L,hR.mono (by omega) (by omega) (by omega),rfl⟩;have bB:i.toNat<J m:=by omega
  have h2:=kc bB;have h3:=iX m (i.toNat+1);rw[aA dp m _ bB];exact ar ⟨h0,aZ⟩ (ar (by rw[zaa];exact bB) (ao (mS _) ⟨o,m[i.toNat].s,rfl,rfl,U.2.1,λb _=>⟨m,o,na,np,nh,nl,A,P,H,L,i,b,cK (m.take i.toNat),m[i.toNat],aA _ _ _ bB,rfl,⟨hR,by omega,⟨h0,aZ⟩,U.2.2.2 _ (zay bB)⟩,λuP uQ uR iH A' P' H' L' g1=>ar (by omega) (hn (uP,uQ,uR,iH,A',P',H',L') aZ ⟨U,by rw[show(i+1).toNat=i.toNat+1 by omega,h2];exact g1⟩)⟩⟩)))
 (by rintro s E ⟨m,o,rfl,U,hp⟩;refine⟨(m,o),(0,0,0,0,[],[],[],[]),rfl,⟨U,[],[],[],[],⟨rfl,rfl,rfl,rfl⟩,⟨rfl,rfl,rfl,rfl⟩,rfl,by simp,by simp,by simp⟩,?_⟩;rintro e s ⟨na,np,nh,nl,A,P,H,L,g1,h⟩;cases h;exact hp na np nh nl A P H L g1)
theorem qko:FD X 28 qg9:=IS (.cons qan (.cons qop (.cons qoq (.cons qo5 (.cons qkn (.cons qjT (.cons Y8 .nil))))))) (.cons qfk .nil) (by
 intro ps R E hh;obtain⟨l,rfl,rfl,U,hp⟩:=hh
 (rw[<-qsB];delta eM dK OU PC y8 uO qL fp O2 ia jf fI ll jP gC Zf1 gX Iu Dj xH Yk ZeC Sd Jz wj Eh JA Zey Zdv Zex JB JC JD JE Jy zw zY JF JG Z5 Pk JH jB JI Ea Al Zf2 jg FM Uz sv Zf3 Zn zx)
 have hl:=U.1.1;have B: ∀{α:Type} (f:α->D) (l:List α),ab (J l) (l.map f)=l.map f:=λf l=>zak (by simp);refine⟨l,rfl,rfl,U.1,λm hm=> ?_⟩;have Vc:=hm.length_le;have hmo:=qbg hm;rw[B dp m];refine⟨m,rfl,rfl,by omega,λh hh=> ?_⟩;rw[B dX h];refine⟨h,rfl,rfl,by omega,λo ho=>⟨m,o,rfl,⟨by omega,by omega,by have:=U.2.1;omega,λg hg=>U.2.2 g (hm.subset hg)⟩,λna np nh nl A P H L hR=> ?_⟩⟩;obtain⟨a,p,b,g,⟨rfl,rfl,rfl,rfl⟩,⟨rfl,rfl,rfl,rfl⟩,e1,e2,e3,e4⟩:=hR;rw[B aF a,B bI p,B eK b,B eK g,B bX o];refine⟨a,p,rfl,rfl,⟨by omega,e1.symm⟩,λq hq=> ?_⟩;rw[B bI q];refine⟨m,q,by rw[B dp m],rfl,⟨by omega,by omega,by have:=U.2.1;omega⟩,λr hr=>⟨b,g,rfl,rfl,⟨by omega,by omega⟩,λv hv=> ?_⟩⟩;rw[B bI r,B aF v];refine⟨r,v,rfl,rfl,⟨hr,by omega⟩,?_⟩;exact λ_ _=>hp _ _ _ b g e3 e4)
end
structure n0(i:Int)(l:List au):Prop where
 chk: ∀g∈l,fu g=O
 nd:(l.map (·.s)).Nodup
 sm: ∀g∈l,(1<=g.s.2/\g.s.2<=3)/\(g.s.1<=i/\g.n<=i)/\J g.ops<=1/\ ∀o∈g.ops,J o.text<=2/\J o.elems<=3
 len:(J l:Int)<=i
def gZ(l:List au) v:=l.filter λg=>decide (g.n<=j8 v g.s.2)
theorem IJ{v}(h:gO v=O) r:0<=j8 v r:=by
 unfold gO at h;rw[zam] at h;unfold j8;split
 ·exact zbW _
 rw[zaj];cases hk:v[(r-1).toNat]? with
 |none=>exact zbW _
 |some x=>exact h.1 x (zas hk)
theorem sA{v}(h:gO v=O):J v<=16:=by unfold gO at h;rw[zam] at h;exact h.2.1
theorem FY{v}(B: ∀n∈v,0<=n)(U:J v<=16):gO (cc v)=O:=by unfold gO;rw[zam];refine⟨λn h=>B n (zbm h),?_,by rw[La]⟩;rw[ud];have:=uc v (J v);omega
theorem FZ v r:j8 (cc v) r=j8 v r:=by
 by_cases h:1<=r
 ·rw[p7 _ h,p7 _ h,OA]
 unfold j8;rw[zau (by omega),zau (by omega)]
theorem qfl{n f r}(h:1<=r):j8 (rK n f) r=if(r-1).toNat<n then f (r-1).toNat else 0:=by rw[p7 _ h,BL]
theorem CX{n f}(h: ∀i,0<=f i): ∀x∈rK n f,0<=x:=by intro x B;unfold rK at B;obtain⟨i,_,rfl⟩:=zal.1 B;exact h i
theorem qfm{v r n}(U:1<=r) q (B:1<=q):j8 (cc (lh v r n)) q=if q=r then n else j8 v q:=by
 rw[FZ];unfold lh;rw[qfl B];have e:(((q-1).toNat:Nat):Int)+1=q:=by omega
 simp only[e];split
 ·rfl
 rename_i h;rw[zat (by omega),p7 _ B,HB (by omega)]
theorem Sn{v q}(h:q<1):j8 v q=0:=by unfold j8;rw[zau (by omega)]
theorem qbh{v r n}(h:gO v=O)(h1:1<=r)(U:r<=16)(B:0<=n):gO (cc (lh v r n))=O:=by
 refine FY (CX λi=> ?_) ?_
 ·split
  ·exact B
  exact IJ h _
 unfold lh;rw[K6];have:=sA h;omega
theorem qbi v w q (h:1<=q):j8 (pZ v w) q=max (j8 v q) (j8 w q):=by unfold pZ;rw[FZ,p7 _ h,Xw,<-p7 _ h,<-p7 _ h]
theorem UR{v w}(h:gO v=O)(B:gO w=O):gO (pZ v w)=O:=by
 refine FY (CX λi=> ?_) ?_
 ·have:=IJ h ((i:Int)+1);omega
 unfold qc0;rw[K6];have:=sA h;have:=sA B;omega
theorem wA{s}:LB s=O↔1<=s.1/\s.1<=1099511627776/\1<=s.2/\s.2<=16:=by show BM s.1 s.2=O↔_;unfold BM;rw[zam]
theorem As{a b}:pq a b=O↔a.1<b.1\/a.1=b.1/\a.2<b.2:=by show ug a.1 a.2 b.1 b.2=O↔_;unfold ug;rw[zam]
theorem qbj{g}(h:fu g=O):LB g.s=O/\(1<=g.n/\g.n<=1099511627776)/\gO g.deps=O/\j8 g.deps g.s.2=g.n-1:=by unfold fu hdG at h;simp only[zac,zam,zbV] at h;exact⟨h.1.1.1.1,h.1.1.1.2,h.1.1.2,h.1.2⟩
theorem op1{i l}(hl:n0 i l){g}(hg:g∈l){o}(B:o∈g.ops): ∃m,Nd g.s 0 o=Z m:=by
 have h1:=(hl.sm g hg).2.2.1;have U:=Rz (hl.chk g hg);cases h:g.ops with
 |nil=>rw[h] at B;cases B
 |cons a r=>
  rw[h] at h1 B U;have hr:r=[]:=by simpa using h1
  subst hr;rw[zaN.1 B];unfold sP at U;split at U
  ·exact⟨_,by assumption⟩
  cases U
def qpe(l:List au) x:= ∃g∈l,Jj x=g.s/\0<=x.2.2/\x.2.2<=1000
theorem qfn{s k n o}(h:Nd s k o=Z n)(U:o.kind=3):o.elem=(s.1,s.2,k):=by
 unfold Nd at h;rw[zat (by omega: ¬o.kind=0),zat (by omega: ¬o.kind=1),zat (by omega: ¬o.kind=2),zau U] at h;split at h
 ·cases h
 split at h
 next B=>exact B.2.2.1
 cases h
theorem qbk{i l}(hl:n0 i l){g}(h:g∈l){o}(B:o∈g.ops)(hk:o.kind=3){k}(h0:0<=k)(h1:k<=1000):qpe l (o.elem.1,o.elem.2.1,o.elem.2.2+k):=by obtain⟨m,U⟩:=op1 hl h B;have h2:=qfn U hk;rw[h2];exact⟨g,h,rfl,by show 0<=0+k;omega,by show 0+k<=1000;omega⟩
def MF(s:aN)(p:ak)(h:List UInt8)(d:Bool):bq:=⟨0,(s.1,s.2,0),p,h,d,[],aJ,aJ,[],[]⟩
def qfo(x p:ak)(h:List UInt8):bq:=⟨1,x,p,h,C,[],aJ,aJ,[],[]⟩
def qkp(x:ak)(d:List aN):bq:=⟨2,x,aJ,[],C,d,aJ,aJ,[],[]⟩
def qfp(s:aN)(x a:ak)(t:List UInt8):bq:=⟨3,x,aJ,[],C,[],a,(s.1,s.2,0),t,[]⟩
def qfq(x:ak)(e:List ak):bq:=⟨4,x,aJ,[],C,[],aJ,aJ,[],e⟩
section
variable{i:Int}{l:List au}(hl:n0 i l){v:List Int}{r:Int}
include hl
end
def x6(x:ak)(o:bq):List aS:=if o.kind=3/\o.node=x then [(o.after,o.elem,o.text)] else []
def qn x (l:List bq):=l.flatMap (x6 x)
def cZ(l:List au) x:=l.flatMap λg=>qn x g.ops
theorem qbl x o:J (x6 x o)<=1:=by unfold x6;split<;>simp
theorem wB x: ∀l,J (qn x l)<=J l
 | []=>zag _
 |o::l=>by have B:=qbl x o;have h:=wB x l;grind [qn]
theorem sB x: ∀l,J (cZ l x)<=cK l
 | []=>zag _
 |g::l=>by have B:=wB x g.ops;have h:=sB x l;grind [cZ,fF]
theorem MG{l x r}(h:r∈cZ l x): ∃g∈l,∃o∈g.ops,o.kind=3/\r=(o.after,o.elem,o.text):=by obtain⟨g,hg,B⟩:=zde.1 h;obtain⟨o,U,B⟩:=zde.1 B;grind [x6]
def qpf l x:=dL kr ((ku (cZ l x)).map (·.1))
theorem wC t:J (kg t)<=J t:=by grind [kg,HY]
theorem qbm{i l}(hl:n0 i l){x y}(h:y∈qpf l x):qpe l y:=by obtain⟨e,he,rfl⟩:=zal.1 ((cm _).mem_iff.1 h);have:=(CS (l:=cZ l x) _ (zag _)).2;rw[zan] at this;obtain⟨_,r,hr,k,hk,h1,_⟩:=this e he;obtain⟨g,U,o,B,h3,rfl⟩:=MG hr;have hp:=wC o.text;have ht:=((hl.sm g U).2.2.2 o B).1;rw[h1];exact qbk hl U B h3 (Int.natCast_nonneg k) (by grind)
def uF b (l:List bq):=(l.filter λo=>o.kind==0&&(o.dir==b)).map (·.node)
def x7 b (l:List au):=l.flatMap λg=>uF b g.ops
theorem MH b l:J (uF b l)<=J l:=by grind [uF]
theorem wE b: ∀l,J (x7 b l)<=cK l
 | []=>zag _
 |g::l=>by have B:=MH b g.ops;have h:=wE b l;grind [x7,fF]
def qo(r:aS):D:= .agg [iE r.1.1,iE r.1.2.1,iE r.1.2.2,iE r.2.1.1,iE r.2.1.2.1,iE r.2.1.2.2,.str r.2.2]
abbrev jI(l:List aS):P:= .d (.sl 7 (l.map qo))
abbrev qbn(z:Bool)(l:List aS):Obj:= .arr 115 z (l.map qo)
abbrev CY(z:Bool)(l:List a8):Obj:= .arr 127 z (l.map qo)
abbrev sS(x:ak):Obj:= .box 49 [iD x.1,iD x.2.1,iD x.2.2]
abbrev US(z:Bool)(l:List (List UInt8)):Obj:= .arr 9 z (l.map GT)
def AtR(l:List aS)(i:Int) r:=CE (l.map qo) i.toNat=qo r
abbrev rn9(l:List au)(x:ak)(o:List aS)(i:Int):S:=⟨53,[(0,ey l),(3,.ref 0 0 0),(5,.sl 1 0 (J o)),(6,iD i)],[(0,⟨0,Y,sS x⟩),(1,⟨0,Y,qbn C o⟩)]⟩
abbrev qfr(l:List au)(x:ak)(o:List aS)(i k:Int):S:=⟨53,[(0,ey l),(3,.ref 0 0 0),(5,.sl 1 0 (J o)),(6,iD i),(7,iD k)],[(0,⟨0,Y,sS x⟩),(1,⟨0,Y,qbn C o⟩)]⟩
def PK o:=AC 0 Y (Cs (115:I) C (aa qo o))
def Zfa x o:=[Cb x,(1,PK o)]
def sC(o:List aS):=J o
def Zf8 o:=(5,IH 1 0 (sC o))
def Zf7 o:=ab (sC o) (aa qo o)
def Zf6 l i k:=[BC [we GE (AM (xz (nF l i k) 10)),we GE (AM (xz (nF l i k) 11)),we GE (AM (xz (nF l i k) 12)),we GE (AM (xz (nF l i k) 13)),we GE (AM (xz (nF l i k) 14)),we GE (AM (xz (nF l i k) 15)),GT (Q3 (xz (nF l i k) 16))]]
def Zf4 l i k (x:ak):=AM (xz (nF l i k) 1)==ba x&&(AM (xz (nF l i k) 2)==gD x&&O)&&(AM (xz (nF l i k) 3)==fO x&&O)
theorem qha l x o i k E:(ob (tB i l) (ob (nV l i) (bif Zef k l i then ob (tB i l) (ob (nV l i) (ob (Sl k l i) (ob (Sk l i k) (bif Sj l i k==(3:Int) then bif Zf4 l i k x then ob (gr (sC o) (J (aa qo o))&&aB (sC o+J (Zf6 l i k)) 64) (ob (Zv k) (E (AD,AS 53 (iG l::eN::(5,IH 1 0 (sC o+J (Zf6 l i k)))::ZQ i::ZR k) [Cb x,(1,AC 0 Y (Cs (115:I) C (Zf7 o++Zf6 l i k)))]))) else ob (Zv k) (E (AD,AS 53 (iG l::eN::Zf8 o::ZQ i::ZR k) (Zfa x o))) else ob (Zv k) (E (AD,AS 53 (iG l::eN::Zf8 o::ZQ i::ZR k) (Zfa x o))))))) else E (DD 2,AS 53 (iG l::eN::Zf8 o::Fz i) (Zfa x o)))))=(aG [] [] 60 6 (qfr l x o i k)) E:=by kernel_rfl
def qhb:S->K (PX×S):=λs E=> ∃l x o i g,AtG l i g/\s=qfr l x o i 0/\(0<=i/\i<J l/\J o+J g.ops<=1000000)/\ ∀h,h=o++qn x g.ops->E (.exit 2,rn9 l x h i)
theorem qpg l x o i E:(bif Ju i l then∃U bm B h g,AtG U h g/\AS 53 (iG l::eN::Zf8 o::ZQ i::xD) (Zfa x o)=AS 53 (iG U::eN::Zf8 B::ZQ h::xD) (Zfa bm B)/\((0:Int)<=h/\h<wg U/\sC B+Dk g<=1000000)/\ ∀o',o'=B++qn bm (au.ops g)->ob (Zv h) (E (AD,AS 53 (iG U::eN::Zf8 o'::ZL h) (Zfa bm o'))) else E (DD 0,AS 53 [(5,IH 0 0 (sC o))] [(0,PK o)]))=(aG [] [(6,ah (aV 60 6) qhb)] 60 3 (rn9 l x o i)) E:=by kernel_rfl
def qph:S->K (PX×S):=λs E=> ∃l x,s=rn9 l x [] 0/\(J l<=1000000/\cK l<=1000)/\ ∀o,o=cZ l x->E (.exit 0,⟨53,[(5,.sl 0 0 (J o))],[(0,⟨0,Y,qbn C o⟩)]⟩)
def Zfd h:=sv h/\cK h<=1000
def Zfb:=AC 0 Y (Cs (115:I) C [])
def Zfc B h:=AS 53 (iG B::eN::(5,Af)::Pk) [Cb h,(1,Zfb)]
theorem qsC l x E:(∃h B,Zfc l x=Zfc h B/\Zfd h/\ ∀o,o=cZ h B->E (IH 0 0 (sC o),[(0,PK o)]))=(aO [] [(3,ah (aV 60 3) qph)] 60 [ey l,.d (aF x)] []) E:=by kernel_rfl
def qpi:bc:=λps R E=> ∃l x,ps=[ey l,.d (aF x)]/\R=[]/\(J l<=1000000/\cK l<=1000)/\ ∀o,o=cZ l x->E (.sl 0 0 (J o),[(0,⟨0,Y,qbn C o⟩)])
abbrev qkq(h g:List aT)(x:ak)(L:List D)(n:Nat)(i k:Int):S:=⟨84,[(0,gK h),(1,gK g),(5,.ref 0 0 0),(7,.sl 1 0 n),(8,iD i),(9,iD k)],[(0,⟨0,Y,sS x⟩),(1,⟨0,Y,.arr 27 C L⟩)]⟩
abbrev qpj(h g:List aT)(x:ak)(L:List D)(n:Nat)(i:Int):S:=⟨84,[(0,gK h),(1,gK g),(5,.ref 0 0 0),(7,.sl 1 0 n),(8,iD i)],[(0,⟨0,Y,sS x⟩),(1,⟨0,Y,.arr 27 C L⟩)]⟩
abbrev of9(h g:List aT)(x:ak)(o:List aN)(i:Int):S:=⟨84,[(0,gK h),(1,gK g),(5,.ref 0 0 0),(7,.sl 1 0 (J o)),(8,iD i)],[(0,⟨0,Y,sS x⟩),(1,⟨0,Y,qT C o⟩)]⟩
def Zfg x L:=[Cb x,(1,AC 0 Y (Cs (27:I) C L))]
def Zff n:=(7,IH 1 0 n)
def Zfe L k:=vc L (Zs k) (D.aY (BC [H9 L k,H8 L k]) [Nk L k,Nj L k])
theorem qkr h g x L n i k E:(bif ZF k then ob (jA k n) (ob (tA k L) (ob (bE PR (27:I) (nT L k)) (ob (Z9 k) (ob (wR k n) (ob (D9 k L) (ob (bE PR (27:I) (Zb L k)) (∃a b,[Do (BC [H9 L k,H8 L k]),Do (BC [Nk L k,Nj L k])]=wQ a::rR b/\Zn/\ ∀r,r=pq a b->bif r then ob (Z9 k) (ob (Z9 k) (ob (wR k n) (ob (D9 k L) (ob (bE PR (27:I) (Zb L k)) (ob (jA k n) (ob (tA k L) (ob (bE PR (27:I) (nT L k)) (ob (jA k n) (ob (tA k L) (ob (bE PR (27:I) (nT L k)) (ob (wR k n) (ob (decide (Za k<J (Zfe L k))) (ob (bE PR (27:I) (CE (Zfe L k) (Za k))) (ob (Z9 k) (E (AD,AS 84 (uy h::wq g::wN::Zff n::Ei i::Z7W k) [Cb x,(1,AC 0 Y (Cs (27:I) C (vc (Zfe L k) (Za k) (D.aY (BC [we GE (AM (xz (CE (Zfe L k) (Za k)) 0)),we GE (AM (xz (CE (Zfe L k) (Za k)) 1))]) [H9 L k,H8 L k]))))])))))))))))))))) else E (DD 2,AS 84 (uy h::wq g::wN::Zff n::Zbr i) (Zfg x L))))))))) else E (DD 2,AS 84 (uy h::wq g::wN::Zff n::Zbr i) (Zfg x L)))=(aG [(53,Fq)] [] 35 8 (qkq h g x L n i k)) E:=by kernel_rfl
def qhc:S->K (PX×S):=λU E=> ∃h g x,∃o,∃L n i k,U=qkq h g x L n i k/\L=o.map bX/\((0<=k/\k<n)/\n<=1000001/\J o=n)/\ ∀B,J B=n->E (.exit 2,qpj h g x (B.map bX) n i)
def Zfj o h i:=gX o+J [BC (Zbs h i)]
def Zfh x o:=[Cb x,(1,Eh o)]
def Zfi i (E:PX×S->Prop) h g o x:=ob (Zv i) (E (AD,AS 84 (uy h::wq g::wN::(7,IH 1 0 (gX o))::vY i) (Zfh x o)))
theorem qks h g (x:ak) o i E:(bif UG i h then ob (Mn i h) (ob (Mm h i) (bif !(AM (xz (wS h i) 0)==ba x&&(AM (xz (wS h i) 1)==gD x&&O)&&(AM (xz (wS h i) 2)==fO x&&O)) then Zfi i E h g o x else ob (Mn i h) (ob (Mm h i) (∃(l:List aT) (B:aT),[qL g,Do (Zbt h i)]=[qL l,Do (BC [we GE (ba (ba B)),we GE (ba (bl (ba B))),we GE (bl (bl (ba B))),we GE (ba (bl B)),we GE (bl (bl B))])]/\Zn/\y8 l/\ ∀b,b=decide (B∈l)->bif b then Zfi i E h g o x else ob (Mn i h) (ob (Mm h i) (∃l x_2,[wm o,Do (BC (Zbs h i))]=wm l::rR x_2/\zu o=zu l/\Iu l/\ ∀b,Zf0 b l x_2->bif b then ob (Zv i) (E (AD,AS 84 (uy h::wq g::wN::(7,IH 1 0 (gX o))::vY i) (Zfh x l))) else ob (Mn i h) (ob (Mm h i) (ob (gr (gX o) (Ab l)&&aB (Zfj o h i) 16) (ob (decide (Z7<=(↑(Zfj o h i):Int)-(1:Int)/\(↑(Zfj o h i):Int)-(1:Int)<=Z8)) (∃h_1 bJ U bC L n bh k,AS 84 [uy h,wq g,wN,(7,IH 1 0 (Zfj o h i)),Ei i,(9,Do (we GE ((↑(Zfj o h i):Int)-(1:Int))))] [Cb x,(1,AC 0 Y (Cs (27:I) C (ab (gX o) (aa bX l)++[BC (Zbs h i)])))]=AS 84 (uy h_1::wq bJ::wN::Zff n::Ei bh::Z7Z k) (Zfg U L)/\L=aa bX bC/\(RE k n/\n<=1000001/\gX bC=n)/\ ∀o',gX o'=n->ob (Zv bh) (E (AD,AS 84 (uy h_1::wq bJ::wN::Zff n::vY bh) (Zfh U o'))))))))))))) else E (DD 0,AS 84 [(7,wm o)] (Vx o)))=(aG [(63,qjO),(14,RZ)] [(8,ah (aV 35 8) qhc)] 35 3 (of9 h g x o i)) E:=by kernel_rfl
def qpk:S->K (PX×S):=λs E=> ∃h g x,s=of9 h g x [] 0/\(J h<=1000000/\J g<=1000000)/\ ∀o,J o<=J h->E (.exit 0,⟨84,[(7,.sl 0 0 (J o))],[(0,⟨0,Y,qT C o⟩)]⟩)
def Zfk h U B:=AS 84 (uy h::wq U::wN::(7,Af)::Fy) [Cb B,(1,Jy)]
theorem qpl h g x E:(∃B U bm,Zfk h g x=Zfk B U bm/\(y8 B/\y8 U)/\ ∀o,gX o<=J B->E (wm o,Vx o))=(aO [] [(3,ah (aV 35 3) qpk)] 35 [gK h,gK g,.d (aF x)] []) E:=by kernel_rfl
def qpm:bc:=λps R E=> ∃h g x,ps=[gK h,gK g,.d (aF x)]/\R=[]/\(J h<=1000000/\J g<=1000000)/\ ∀o,J o<=J h->E (.sl 0 0 (J o),[(0,⟨0,Y,qT C o⟩)])
abbrev el9(l:List aS)(o:List a8)(i:Int):S:=⟨86,[(0,jI l),(3,.sl 0 0 (J o)),(4,iD i)],[(0,⟨0,Y,CY C o⟩)]⟩
abbrev qbo(l:List aS)(o:List a8)(p:List (List UInt8))(a:ak)(i k:Int):S:=⟨86,[(0,jI l),(3,.sl 0 0 (J o)),(4,iD i),(5,.sl 1 0 (J p)),(7,.ref 2 0 0),(8,iD k)],[(0,⟨0,Y,CY C o⟩),(1,⟨0,Y,US C p⟩),(2,⟨0,Y,sS a⟩)]⟩
abbrev qkt(l:List aS)(o:List a8)(p:List (List UInt8))(a x:ak)(h:Bool)(i k j:Int):S:=⟨86,[(0,jI l),(3,.sl 0 0 (J o)),(4,iD i),(5,.sl 1 0 (J p)),(7,.ref 2 0 0),(8,iD k),(9,.ref 3 0 0),(10,.d (.bool h)),(11,iD j)],[(0,⟨0,Y,CY C o⟩),(1,⟨0,Y,US C p⟩),(2,⟨0,Y,sS a⟩),(3,⟨0,Y,sS x⟩)]⟩
def PL(o:List a8):=aa qo o
def ZfA o j:=CE (PL o) (Zs j)
noncomputable def ZfB o j:=bE PR (127:I) (ZfA o j)
def Zfz j o:=decide (Zs j<J (PL o))
def zb o:=(↑(kQ o):Int)
def Zfy j o:=decide ((0:Int)<=j/\j<zb o)
def Zfw x:=(3,pd x)
def Zfu o:=AC 0 Y (Cs (127:I) C (PL o))
def Au o:=(0,Zfu o)
def Zfx o p a x:=[Au o,Rl p,D7 a,Zfw x]
def Zfs:=(9,PB)
def Nr:=(7,qh)
def PN p:=(5,IH 1 0 (p8 p))
def JJ o:=(3,qU o)
def F6 l:=Do (IR 7 (aa qo l))
def sT l:=(0,F6 l)
def Zfm j o:=decide (j<zb o)
theorem qbp l o p a x h i k j E:(bif Zfm j o then bif h then ob (Zv j) (E (AD,AS 86 (sT l::JJ o::qO i::PN p::Nr::Ei k::Zfs::(10,ZT)::Z3D j) (Zfx o p a x))) else ob (Zfy j o) (ob (Zfz j o) (ob (ZfB o j) (ob (Zv j) (E (AD,AS 86 (sT l::JJ o::qO i::PN p::Nr::Ei k::Zfs::(10,Do (IM (AM (xz (ZfA o j) 0)==ba x&&(AM (xz (ZfA o j) 1)==gD x&&O)&&(AM (xz (ZfA o j) 2)==fO x&&O))))::Z3D j) (Zfx o p a x)))))) else E (DD 4,AS 86 [sT l,JJ o,qO i,PN p,Nr,Ei k,Zfs,(10,iF h)] (Zfx o p a x)))=(aG [] [] 104 13 (qkt l o p a x h i k j)) E:=by kernel_rfl
def qhd:S->K (PX×S):=λs E=> ∃l o p a x h i k,s=qkt l o p a x h i k 0/\J o<=1000000/\ ∀b,b=(h ||o.any λe=>e.1==x)->E (.exit 4,⟨86,[(0,jI l),(3,.sl 0 0 (J o)),(4,iD i),(5,.sl 1 0 (J p)),(7,.ref 2 0 0),(8,iD k),(9,.ref 3 0 0),(10,.d (.bool b))],[(0,⟨0,Y,CY C o⟩),(1,⟨0,Y,US C p⟩),(2,⟨0,Y,sS a⟩),(3,⟨0,Y,sS x⟩)]⟩)
def ZfK o:=[Au o]
def ZfJ h:=ab (kQ h) (PL h)
def ZfI x h B U:=[BC [fQ x,fP x,gA x,fQ h,fP h,gA h,GT (Q3 (CE (aa GT B) (Zs U)))]]
def ZfH h:=gr (kQ h) (J (PL h))
def ZfG h:=kQ h<=1000000
def Du l i:=CE (aa qo l) (Zs i)
noncomputable def ZfF l i:=bE PR (115:I) (Du l i)
def ZfC l:=(↑(J (aa qo l)):Int)
def ZfD i l:=decide ((0:Int)<=i/\i<ZfC l)
theorem qbq l o p a i k E:(bif decide (k<(↑(p8 p):Int)) then ob (ZfD i l) (ob (ZfF l i) (ob (ZfD i l) (ob (ZfF l i) (ob (decide (Z7<=AM (xz (Du l i) 5)+k/\AM (xz (Du l i) 5)+k<=Z8)) (∃av bC B nZ x h bh U,AS 86 (sT l::JJ o::qO i::PN p::Nr::Ei k::Zfs::(10,Do (IM (AM (xz (Du l i) 3)==(0:Int)&&(AM (xz (Du l i) 4)==(0:Int)&&O)&&(AM (xz (Du l i) 5)+k==(0:Int)&&O))))::Z3K) [Au o,Rl p,D7 a,(3,AC 0 Y (H1 (49:I) [Do (we GE (AM (xz (Du l i) 3))),Do (we GE (AM (xz (Du l i) 4))),Do (we GE (AM (xz (Du l i) 5)+k))]))]=AS 86 (sT av::JJ bC::qO bh::PN B::Nr::Ei U::Zfs::(10,iF h)::Z3K) (Zfx bC B nZ x)/\ZfG bC/\ ∀b,b=(h ||List.any bC λe=>ba e==x)->bif !b then ob (decide ((0:Int)<=U/\U<(↑(p8 B):Int))) (ob (decide (Zs U<J (aa GT B))) (ob (bE PR (9:I) (CE (aa GT B) (Zs U))) (ob (ZfH bC&&aB (kQ bC+J (ZfI x nZ B U)) 64) (ob (Zv U) (E (AD,AS 86 (sT av::(3,IH 0 0 (kQ bC+J (ZfI x nZ B U)))::qO bh::PN B::Nr::vY U) [(0,AC 0 Y (Cs (127:I) C (ZfJ bC++ZfI x nZ B U))),Rl B,D7 x])))))) else ob (Zv U) (E (AD,AS 86 (sT av::JJ bC::qO bh::PN B::Nr::vY U) [Au bC,Rl B,D7 x]))))))) else E (DD 2,AS 86 (sT l::JJ o::HU i) (ZfK o)))=(aG [] [(13,ah (aV 104 13) qhd)] 104 8 (qbo l o p a i k)) E:=by kernel_rfl
def qhe:S->K (PX×S):=λs E=> ∃l o p r i,s=qbo l o p r.1 i 0/\(0<=i/\i<J l/\J l<=1000000/\J p<=100000/\J o+J p<=1000000/\(0<=r.2.1.2.2/\r.2.1.2.2<=1000000000000))/\AtR l i r/\ ∀h,h=CR r o p->E (.exit 2,el9 l h i)
def ZfO l i:=(2,AC 0 Y (H1 (49:I) [Do (we GE (AM (xz (Du l i) 0))),Do (we GE (AM (xz (Du l i) 1))),Do (we GE (AM (xz (Du l i) 2)))]))
def ZfM(r:aS):=bl (bl (ba (bl r)))
def ZfL(r:aS):=(2,AC 0 Y (H1 (49:I) [Do (we GE (ba (ba r))),Do (we GE (ba (bl (ba r)))),Do (we GE (bl (bl (ba r))))]))
def ZfN(E:PX×S->Prop):=λs0=> ∃B U p r h,s0=AS 86 (sT B::JJ U::qO h::PN p::Nr::Fy) [Au U,Rl p,ZfL r]/\((0:Int)<=h/\h<(↑(sC B):Int)/\sC B<=1000000/\p8 p<=100000/\kQ U+p8 p<=1000000/\(0:Int)<=ZfM r/\ZfM r<=(1000000000000:Int))/\AtR B h r/\ ∀o',o'=CR r U p->ob (Zv h) (E (AD,AS 86 (sT B::JJ o'::Cu h) (ZfK o')))
theorem qbr l o i E:(bif decide (i<ZfC l) then ob (ZfD i l) (ob (ZfF l i) (∃s,[Do (GT (Q3 (xz (Du l i) 6)))]=lH s/\Zn/\HW s/\(Yv s->ob (ZfD i l) (ob (ZfF l i) (ZfN E (AS 86 (sT l::JJ o::qO i::(5,Af)::Nr::Fy) [Au o,(1,Vk),ZfO l i]))))/\(T5 s-> ∀h,h=DY s->ob (ZfD i l) (ob (ZfF l i) (ZfN E (AS 86 (sT l::JJ o::qO i::PN h::Nr::Fy) [Au o,Rl h,ZfO l i])))))) else E (DD 0,AS 86 [JJ o] (ZfK o)))=(aG [(148,HZ)] [(8,ah (aV 104 8) qhe)] 104 3 (el9 l o i)) E:=by kernel_rfl
def dm l:=J l<=1000000/\UM l<=1000000/\ ∀r∈l,J r.2.2<=100000/\0<=r.2.1.2.2/\r.2.1.2.2<=1000000000000
def qpn:S->K (PX×S):=λs E=> ∃l,s=el9 l [] 0/\dm l/\ ∀o,o=ku l->E (.exit 0,⟨86,[(3,.sl 0 0 (J o))],[(0,⟨0,Y,CY C o⟩)]⟩)
def ZfP:=AC 0 Y (Cs (127:I) C [])
def ZfQ h:=AS 86 (sT h::Y1) [(0,ZfP)]
theorem qpo l E:(∃h,ZfQ l=ZfQ h/\dm h/\ ∀o,o=ku h->E (qU o,ZfK o))=(aO [] [(3,ah (aV 104 3) qpn)] 104 [jI l] []) E:=by kernel_rfl
def qpp:bc:=λps R E=> ∃l,ps=[jI l]/\R=[]/\dm l/\ ∀o,o=ku l->E (.sl 0 0 (J o),[(0,⟨0,Y,CY C o⟩)])
abbrev es9(l:List a8)(o:List ak)(i:Int):S:=⟨64,[(5,.sl 0 0 (J l)),(6,.sl 1 0 (J o)),(7,iD i)],[(0,⟨0,Y,CY C l⟩),(1,⟨0,Y,fw C o⟩)]⟩
abbrev qku(l:List a8)(L:List D)(n:Nat)(i k:Int):S:=⟨64,[(5,.sl 0 0 (J l)),(6,.sl 1 0 n),(7,iD i),(8,iD k)],[(0,⟨0,Y,CY C l⟩),(1,⟨0,Y,.arr 49 C L⟩)]⟩
abbrev qpq(l:List a8)(L:List D)(n:Nat)(i:Int):S:=⟨64,[(5,.sl 0 0 (J l)),(6,.sl 1 0 n),(7,iD i)],[(0,⟨0,Y,CY C l⟩),(1,⟨0,Y,.arr 49 C L⟩)]⟩
def ZfR l:=(5,qU l)
def ZfS(E:PX×S->Prop) l n i L:=E (DD 2,AS 64 [ZfR l,Ia n,sq i] [Au l,(1,vU L)])
theorem qkv l L n i k E:(bif ZF k then ob (jA k n) (ob (tA k L) (ob (Vy L k) (ob (Z9 k) (ob (wR k n) (ob (D9 k L) (ob (bE PR (49:I) (Zb L k)) (∃t r bh h B U,Zbk L k=Do (BC (Zj t::Zj r::Zk bh))::sM h B U/\Zn/\bif Z7t t r bh h B U then ob (Z9 k) (ob (Z9 k) (ob (wR k n) (ob (D9 k L) (ob (bE PR (49:I) (Zb L k)) (ob (jA k n) (ob (tA k L) (ob (Vy L k) (ob (jA k n) (ob (tA k L) (ob (Vy L k) (ob (wR k n) (ob (decide (Za k<J (Zbg L k))) (ob (bE PR (49:I) (CE (Zbg L k) (Za k))) (ob (Z9 k) (E (AD,AS 64 [ZfR l,Ia n,sq i,(8,ZG k)] [Au l,(1,Zbi L k)])))))))))))))))) else ZfS E l n i L))))))) else ZfS E l n i L)=(aG [(98,mG)] [] 66 8 (qku l L n i k)) E:=by kernel_rfl
def qhf:S->K (PX×S):=λB E=> ∃l,∃o,∃L n i k,B=qku l L n i k/\L=o.map aF/\((0<=k/\k<n)/\n<=1000001/\J o=n)/\ ∀h,J h=n->E (.exit 2,qpq l (h.map aF) n i)
def ZfU l i:=we GE (AM (xz (ZfA l i) 1))
def ZfT l i:=we GE (AM (xz (ZfA l i) 0))
def ZfV l i:=BC [ZfT l i,ZfU l i,we GE (AM (xz (ZfA l i) 2))]
def ZfW o l i:=dK o+J [ZfV l i]
theorem qkw l o i E:(bif Zfm i l then ob (Zfy i l) (ob (Zfz i l) (ob (ZfB l i) (ob (XY o&&aB (ZfW o l i) 24) (ob (decide (Z7<=(↑(ZfW o l i):Int)-(1:Int)/\(↑(ZfW o l i):Int)-(1:Int)<=Z8)) (∃h bC L n B k,AS 64 [ZfR l,(6,IH 1 0 (ZfW o l i)),sq i,(8,Do (we GE ((↑(ZfW o l i):Int)-(1:Int))))] [Au l,(1,AC 0 Y (Cs (49:I) C (OU o++[ZfV l i])))]=AS 64 (ZfR h::Ia n::sq B::Zbr k) [Au h,(1,vU L)]/\L=eM bC/\(RE k n/\n<=1000001/\dK bC=n)/\ ∀U,dK U=n->ob (Zv B) (E (AD,AS 64 (ZfR h::Ia n::ZR B) (Au h::ZbL U)))))))) else E (DD 0,AS 64 [(6,sg o)] (Ej o)))=(aG [] [(8,ah (aV 66 8) qhf)] 66 4 (es9 l o i)) E:=by kernel_rfl
def qpr:S->K (PX×S):=λs E=> ∃l,s=es9 l [] 0/\J l<=1000000/\ ∀o,J o=J l->E (.exit 0,⟨64,[(6,.sl 0 0 (J o))],[(0,⟨0,Y,fw C o⟩)]⟩)
def ZfX l:=[F6 l]
theorem qps l x E:(∃h B,jf l::gW x=jf h::gW B/\Zn/\Zfd h/\ ∀o,o=cZ h B-> ∃l,[Do (IR 7 (Zf7 o))]=ZfX l/\Zn/\dm l/\ ∀o,o=ku l-> ∃l,AS 64 (ZfR o::Z82) (Au o::ZbM)=AS 64 (ZfR l::Z82) (Au l::ZbM)/\ZfG l/\ ∀o,dK o=kQ l->Zbw E o)=(aO [(60,qpi),(104,qpp)] [(4,ah (aV 66 4) qpr)] 66 [ey l,.d (aF x)] []) E:=by kernel_rfl
def qpt:bc:=λps R E=> ∃l x,ps=[ey l,.d (aF x)]/\R=[]/\(J l<=1000000/\cK l<=1000/\dm (cZ l x))/\ ∀o,J o<=1000000->E (.sl 0 0 (J o),[(0,⟨0,Y,fw C o⟩)])
theorem UT r:bE PR 115 (qo r)=O:=by rfl
theorem qpu(r:a8):bE PR 127 (qo r)=O:=by rfl
theorem qpv s:bE PR 9 (GT s)=O:=by rfl
theorem F7{x l k}(h:k<J l):qn x (l.take (k+1))=qn x (l.take k)++x6 x l[k]:=by grind [qn,mi]
theorem CZ{x l i}(h:i<J l):cZ (l.take (i+1)) x=cZ (l.take i) x++qn x l[i].ops:=by grind [cZ,mi]
section
variable{X:XF}
theorem qbs:LD X 60 6 (ah (aV 60 6) qhb):=LD.idx .nil .nil
 (A:=List au×ak×List aS×Int×au) (B:=List aS) (λa o k=>qfr a.1 a.2.1 o a.2.2.2.1 k) (λa=>J a.2.2.2.2.ops)
 (λa k o=>((0<=a.2.2.2.1/\a.2.2.2.1<J a.1)/\CE (a.1.map dp) a.2.2.2.1.toNat=dp a.2.2.2.2/\J a.2.2.1+J a.2.2.2.2.ops<=1000000)/\o=a.2.2.1++qn a.2.1 (a.2.2.2.2.ops.take k))
 (λa z=>z=(.exit 2,rn9 a.1 a.2.1 (a.2.2.1++qn a.2.1 a.2.2.2.2.ops) a.2.2.2.1))
 (by
  rintro⟨l,x,o0,i,g⟩ o k E h0 C8 eb ⟨⟨hb,U,hl⟩,ho⟩ hn bF
  try dsimp only at*
  (rw[<-qha];delta Zj Zl ZQ Fz PK fO gA gD fP fQ pd Cb Zfa sC Zf8 Zf7 Zz ZA ZR cp eN ia jf iG Z8 Z7 Zv Zs su nF Zf6 Zf4 Sj Sk Sl Zef nV kH tB)
  have jN:0<=i/\i<(J (l.map dp):Int):=by rw[zaa];exact hb
  have u6:D.gh (xz (dp g) 6)=g.ops.map eX:=rfl;have e1:CE (g.ops.map eX) k.toNat=eX g.ops[k.toNat]:=aA _ _ _ eb;have uN:=F7 (x:=x) eb;have uo:J o<1000000:=by have:=wB x (g.ops.take k.toNat);rw[zaG] at this;rw[ho,zaf];omega
  rw[U,u6,e1];have hkm:0<=k/\k<(J (g.ops.map eX):Int):=by grind
  generalize g.ops[k.toNat]=y at*
  have xg:=mS g;have r6:=D3 y;have c0:AM (xz (eX y) 0)=y.kind:=rfl;have c1:(AM (xz (eX y) 1)==x.1&&(AM (xz (eX y) 2)==x.2.1&&O)&&(AM (xz (eX y) 3)==x.2.2&&O))=(y.node==x):=DW y.node x;have t2:BC [we GE (AM (xz (eX y) 10)),we GE (AM (xz (eX y) 11)),we GE (AM (xz (eX y) 12)),we GE (AM (xz (eX y) 13)),we GE (AM (xz (eX y) 14)),we GE (AM (xz (eX y) 15)),GT (Q3 (xz (eX y) 16))]=qo (y.after,y.elem,y.text):=rfl;rw[c0,c1,t2,bx];have cD: ¬(y.kind=3/\y.node=x)->o0++qn x (g.ops.take (k.toNat+1))=o:=λh=>by
   rw[uN,ho];have:x6 x y=[]:=by unfold x6;rw[zat h]
   rw[this,zaL]
  have BQ:y.kind=3->y.node=x->o0++qn x (g.ops.take (k.toNat+1))=o++[(y.after,y.elem,y.text)]:=λh1 h2=>by
   rw[uN,ho,zaW];have:x6 x y=[(y.after,y.elem,y.text)]:=by unfold x6;rw[zau ⟨h1,h2⟩]
   rw[this]
  refine ar jN (ao xg (dv hkm.2 (ar jN (ao xg (ar hkm (ao r6 (zp (λhk=>az (λhx=> ?_) λhx=>ar (by omega) (hn o ⟨⟨hb,U,hl⟩,(cD (λhh=>by rw[hh.2] at hx;simp at hx)).symm⟩)) λhk=>ar (by omega) (hn o ⟨⟨hb,U,hl⟩,(cD (λhh=>hk hh.1)).symm⟩))))))));have hy:=hn (o++[(y.after,y.elem,y.text)]) ⟨⟨hb,U,hl⟩,(BQ hk (by grind)).symm⟩;simp only[qfr,zaf] at hy;refine ao (fy rfl (by rw[zaa]) (by omega) (by decide)) (ar (by omega) ?_);exact hy)
 (by
  rintro⟨l,x,o0,i,g⟩ o k E hk ⟨⟨hb,U,hl⟩,ho⟩ bF
  try dsimp only at*
  (rw[<-qha];delta Zj Zl ZQ Fz PK fO gA gD fP fQ pd Cb Zfa sC Zf8 Zf7 Zz ZA ZR cp eN ia jf iG Z8 Z7 Zv Zs su nF Zf6 Zf4 Sj Sk Sl Zef nV kH tB)
  have jN:0<=i/\i<(J (l.map dp):Int):=by rw[zaa];exact hb
  have u6:D.gh (xz (dp g) 6)=g.ops.map eX:=rfl;rw[U,u6];refine ar jN (ao (mS g) (Cj (by rw[zaa];omega) (bF _ (λh=>by cases h) ?_)));rw[ho,zan])
 (by rintro s E ⟨l,x,o,i,g,U,rfl,⟨h1,h2,h3⟩,hp⟩;refine⟨(l,x,o,i,g),o,rfl,⟨⟨⟨h1,h2⟩,U,h3⟩,by simp[qn]⟩,?_⟩;grind)
theorem qfs:LD X 60 3 (ah (aV 60 3) qph):=LD.idx .nil (.cons qbs .nil)
 (A:=List au×ak) (B:=List aS) (λa o i=>rn9 a.1 a.2 o i) (λa=>J a.1)
 (λa i o=>(J a.1<=1000000/\cK a.1<=1000)/\o=cZ (a.1.take i) a.2)
 (λa z=>z=(.exit 0,⟨53,[(5,.sl 0 0 (J (cZ a.1 a.2)))],[(0,⟨0,Y,qbn C (cZ a.1 a.2)⟩)]⟩))
 (by
  rintro⟨l,x⟩ o i E h0 dE bB ⟨U,ho⟩ hn bF
  try dsimp only at*
  have uN:=CZ (x:=x) bB;have h2:=iX l (i.toNat+1);have h3:=kc bB;have h4:=sB x (l.take i.toNat);rw[<-ho] at h4;refine dv (by rw[zaa];exact dE) ⟨l,x,o,i,l[i.toNat],aA _ _ _ bB,rfl,⟨h0,dE,by omega⟩,λo' nk=>ar (by omega) (hn o' ⟨U,?_⟩)⟩;rw[nk,ho,uN])
 (by
  rintro⟨l,x⟩ o i E hi ⟨U,ho⟩ bF
  (rw[<-qpg];delta PK Zz ZA ZL Z8 Z7 Zv Dk sC wg fO gA gD fP fQ pd Cb Zfa Z5 xD Zj Zl ZQ Zf8 cp eN ia jf iG kH Ju)
  refine Cj (by rw[zaa];omega) (bF _ (λh=>by cases h) ?_);rw[ho,zan])
 (by rintro s E ⟨l,x,rfl,U,hp⟩;refine⟨(l,x),[],rfl,⟨U,rfl⟩,?_⟩;grind)
theorem qpw:FD X 60 qpi:=IS .nil (.cons qfs .nil) (by
 intro ps R E h;obtain⟨l,x,rfl,rfl,B,U⟩:=h
 (rw[<-qsC];delta PK sC sv Zfd Zfb fO gA gD fP fQ pd Cb Z5 Pk Af cp eN ia jf iG Zfc)
 grind)
theorem qbt:LD X 35 8 (ah (aV 35 8) qhc):=LD.sw (.cons Ci .nil) .nil
 (A:=List aT×List aT×ak×Nat×Int) bX (λa L k=>qkq a.1 a.2.1 a.2.2.1 L a.2.2.2.1 a.2.2.2.2 k) (λa=>a.2.2.2.1) 2 (λa L=>qpj a.1 a.2.1 a.2.2.1 L a.2.2.2.1 a.2.2.2.2)
 (by
  rintro⟨h,g,v,n,i⟩ o k E hk hN ho hex Pn;dsimp only at*
  (rw[<-qkr];delta fO gA gD fP fQ pd Cb Zfg Zj Zl Ei Zbr ZG Z7W Zff cp wN uO qL wq uy Za Zb Nj Nk Zs nT H8 H9 Zfe Zn yZ y5 wQ rR D9 wR Z8 Z7 Z9 tA jA ZF)
  refine b8 (λB=> ?_) λ_=>hex;obtain⟨x,y,e1,e2,e3,U⟩:=Pn B;rw[e1,e2];simp only[e3,zaa,zbi,ho]
  repeat' first |exact hex |exact U |refine ar (by omega) ?_ |refine ao (ph _) ?_ |refine⟨x,y,rfl,rfl,λr _=>az (λ_=> ?_) λ_=>hex⟩)
 (by rintro s E ⟨h,g,v,o,L,n,i,k,rfl,rfl,⟨h1,h2,h3⟩,B⟩;exact⟨(h,g,v,n,i),o,k,rfl,h1,h2,h3,B⟩)
theorem qft:LD X 35 3 (ah (aV 35 3) qpk):=LD.wk (.cons qgM (.cons Pz .nil)) (.cons qbt .nil)
 (A:=List aT×List aT×ak) (B:=List aN) (λa o i=>of9 a.1 a.2.1 a.2.2 o i) (λa=>J a.1) (λa i o=>(J a.1<=1000000/\J a.2.1<=1000000)/\J o<=i)
 (λa x=> ∃o:List aN,J o<=J a.1/\x=(.exit 0,⟨84,[(7,.sl 0 0 (J o))],[(0,⟨0,Y,qT C o⟩)]⟩))
 (by
  rintro⟨h,g,v⟩ o i E h0 dE ⟨hm,ho⟩ hn bF
  try skip
  (rw[<-qks];delta wj Eh Vx RE fO gA gD fP fQ pd Cb Zfg Zj Zl Z7Z Zff Ei Z8 Z7 Zs uO wS Zbs gX Zfj Ab Zfh Zz ZA vY cp wN qL wq uy Zv Zf0 Iu zu yZ y5 wQ rR wm y8 Zn Zbn Zbt Zfi Mm Mn UG)
  simp only[zaa,zav,zaI,zaE];refine b8 (λU=> ?_) λ_=>bF _ _ (λh=>by cases h) ⟨o,by omega,rfl⟩;rw[aA eK h i.toNat (by omega)];generalize h[i.toNat]=d;have no:qea (i+1) (E (.normal,of9 h g v o (i+1))):=ar (by omega) (hn o U ⟨hm,by omega⟩);refine ar ⟨h0,U⟩ (ao (Ek _) (az (λ_=>no) λ_=>ar ⟨h0,U⟩ (ao (Ek _) ⟨g,d,rfl,rfl,hm.2,λb _=>az (λ_=>no) λ_=>ar ⟨h0,U⟩ (ao (Ek _) ⟨o,d.2,rfl,rfl,by omega,λb2 _=>az (λ_=>no) λ_=>ar ⟨h0,U⟩ (ao (Ek _) (ao ?_ (ar (by omega) ⟨h,g,v,o++[d.2],_,J o+1,i,_,rfl,bx bX o d.2,⟨⟨by omega,by omega⟩,by omega,by simp⟩,λo' nk=>ar (by omega) ?_⟩)))⟩)⟩)))
  ·rw[zac];exact⟨by simp,dw (by omega) (by omega)⟩
  grind)
 (by rintro s E ⟨h,g,v,rfl,hs,hp⟩;refine⟨(h,g,v),[],rfl,⟨hs,by simp⟩,?_⟩;grind)
theorem qpx:FD X 35 qpm:=IS .nil (.cons qft .nil) (by
 intro ps R E B;obtain⟨h,g,v,rfl,rfl,U,hp⟩:=B
 (rw[<-qpl];delta wj Eh Vx gX wm y8 Jy fO gA gD fP fQ pd Cb Z5 Fy Af cp wN uO qL wq uy Zfk)
 grind)
theorem qbu:LD X 104 13 (ah (aV 104 13) qhd):=LD.idx .nil .nil
 (A:=List aS×List a8×List (List UInt8)×ak×ak×Bool×Int×Int) (B:=Bool) (λa b j=>qkt a.1 a.2.1 a.2.2.1 a.2.2.2.1 a.2.2.2.2.1 b a.2.2.2.2.2.2.1 a.2.2.2.2.2.2.2 j) (λa=>J a.2.1)
 (λa j b=>J a.2.1<=1000000/\b=(a.2.2.2.2.2.1 || (a.2.1.take j).any λe=>e.1==a.2.2.2.2.1))
 (λa z=>z=(.exit 4,⟨86,[(0,jI a.1),(3,.sl 0 0 (J a.2.1)),(4,iD a.2.2.2.2.2.2.1),(5,.sl 1 0 (J a.2.2.1)),(7,.ref 2 0 0),(8,iD a.2.2.2.2.2.2.2),(9,.ref 3 0 0),(10,.d (.bool (a.2.2.2.2.2.1 ||a.2.1.any λe=>e.1==a.2.2.2.2.1)))],[(0,⟨0,Y,CY C a.2.1⟩),(1,⟨0,Y,US C a.2.2.1⟩),(2,⟨0,Y,sS a.2.2.2.1⟩),(3,⟨0,Y,sS a.2.2.2.2.1⟩)]⟩))
 (by
  rintro⟨l,o,p,a,x,h,i,k⟩ b j E h0 J0 Nn ⟨U,hb⟩ hn bF
  (rw[<-qbp];delta iF fO gD Zs PL ZfA ZfB Zfz kQ zb Zfy gA fP fQ pd Zfw D7 Ji Rl Zfu Au Zfx Zz ZA Z3D ZT PB Zfs Zj Zl Ei qh Nr p8 PN qO qU JJ F6 sT Z8 Z7 Zv Zfm)
  have e1:CE (o.map qo) j.toNat=qo o[j.toNat]:=aA _ _ _ Nn;have uN:((o.take (j.toNat+1)).any λe=>e.1==x)=((o.take j.toNat).any (λe=>e.1==x)||o[j.toNat].1==x):=by rw[zah Nn,zcq,List.any_cons,List.any_nil,Bool.or_false]
  rw[e1];generalize o[j.toNat]=e at*
  have c1:(AM (xz (qo e) 0)==x.1&&(AM (xz (qo e) 1)==x.2.1&&O)&&(AM (xz (qo e) 2)==x.2.2&&O))=(e.1==x):=DW e.1 x;rw[c1];refine dv J0 (az (λhbt=>ar (by omega) (hn O ⟨U,?_⟩)) λhbf=>ar ⟨h0,J0⟩ (ar (by rw[zaa];exact Nn) (ao (qpu _) (ar (by omega) (hn _ ⟨U,?_⟩)))))
  ·rw[uN,<-zdp,<-hb,hbt];rfl
  rw[uN,<-zdp,<-hb,hbf];rfl)
 (by
  rintro⟨l,o,p,a,x,h,i,k⟩ b j E hj ⟨U,hb⟩ bF
  (rw[<-qbp];delta iF fO gD Zs PL ZfA ZfB Zfz kQ zb Zfy gA fP fQ pd Zfw D7 Ji Rl Zfu Au Zfx Zz ZA Z3D ZT PB Zfs Zj Zl Ei qh Nr p8 PN qO qU JJ F6 sT Z8 Z7 Zv Zfm)
  refine Cj (by omega) (bF _ (λh=>by cases h) ?_);rw[hb,zan])
 (by rintro s E ⟨l,o,p,a,x,h,i,k,rfl,U,hp⟩;refine⟨(l,o,p,a,x,h,i,k),h,rfl,⟨U,by simp⟩,?_⟩;grind)
theorem qbv:LD X 104 8 (ah (aV 104 8) qhe):=LD.idx .nil (.cons qbu .nil)
 (A:=List aS×List a8×List (List UInt8)×aS×Int) (B:=List a8) (λa o k=>qbo a.1 o a.2.2.1 (Np a.2.2.2.1 k.toNat) a.2.2.2.2 k) (λa=>J a.2.2.1)
 (λa k o=>((0<=a.2.2.2.2/\a.2.2.2.2<J a.1)/\CE (a.1.map qo) a.2.2.2.2.toNat=qo a.2.2.2.1/\J a.2.2.1<=100000/\J a.2.1+J a.2.2.1<=1000000/\(0<=a.2.2.2.1.2.1.2.2/\a.2.2.2.1.2.1.2.2<=1000000000000))/\o=CR a.2.2.2.1 a.2.1 (a.2.2.1.take k))
 (λa z=>z=(.exit 2,el9 a.1 (CR a.2.2.2.1 a.2.1 a.2.2.1) a.2.2.2.2))
 (by
  rintro⟨l,o0,p,r,i⟩ o k E h0 C8 eb ⟨⟨hi,U,hpl,hl,he⟩,ho⟩ hn bF
  try dsimp only at*
  (rw[<-qbq];delta PL Zfu Au ZfK Zj Zl qO HU kQ ZfJ Zz ZA vY Z8 Z7 Zv Zs fO gA gD fP fQ ZfI ZfH ZfG pd Zfw D7 Ji Rl Zfx iF Z5 Z3K PB Zfs Ei qh Nr p8 PN qU JJ F6 sT Du ZfF ZfC ZfD)
  have jN:0<=i/\i<(J (l.map qo):Int):=by rw[zaa];exact hi
  have uo:J o<=J o0+k.toNat:=by grind [Aq]
  have uN:=rV (r:=r) (o:=o0) eb;rw[<-ho] at uN;have e1:CE (p.map GT) k.toNat=GT p[k.toNat]:=aA _ _ _ eb;rw[U];have hx:(r.2.1.1,r.2.1.2.1,r.2.1.2.2+k)=mZ r k.toNat:=by unfold mZ;rw[Int.toNat_of_nonneg h0]
  have c3:AM (xz (qo r) 3)=r.2.1.1:=rfl;have c4:AM (xz (qo r) 4)=r.2.1.2.1:=rfl;have c5:AM (xz (qo r) 5)=r.2.1.2.2:=rfl;rw[c3,c4,c5];have c1:(r.2.1.1==(0:Int)&&(r.2.1.2.1==(0:Int)&&O)&&(r.2.1.2.2+k==(0:Int)&&O))=(mZ r k.toNat==aJ):=by grind
  rw[c1];have ha:Np r (k+1).toNat=mZ r k.toNat:=by rw[show(k+1).toNat=k.toNat+1 by omega];rfl
  have hn: ∀o',o'=Mv o (mZ r k.toNat) (Np r k.toNat) p[k.toNat]->E (.normal,qbo l o' p (mZ r k.toNat) i (k+1)):=λo' h=>by have:=hn o' ⟨⟨hi,U,hpl,hl,he⟩,by rw[uN];exact h⟩;rw[ha] at this;exact this
  generalize Np r k.toNat=a at*
  refine dv C8 (ar jN (ao (UT _) (ar jN (ao (UT _) (ar (by omega) ⟨l,o,p,a,mZ r k.toNat,mZ r k.toNat==aJ,i,k,by rw[<-hx],by omega,λb hb=>az (λhbf=> ?_) λhbt=> ?_⟩)))))
  ·have hs:Mv o (mZ r k.toNat) a p[k.toNat]=o++[(mZ r k.toNat,a,p[k.toNat])]:=by grind [Mv]
   have hy:=hn _ hs.symm;rw[e1];have t2:BC [we GE (mZ r k.toNat).1,we GE (mZ r k.toNat).2.1,we GE (mZ r k.toNat).2.2,we GE a.1,we GE a.2.1,we GE a.2.2,GT (Q3 (GT p[k.toNat]))]=qo (mZ r k.toNat,a,p[k.toNat]):=rfl;rw[t2,bx];simp only[qbo,zaf] at hy;refine ar ⟨h0,C8⟩ (ar (by rw[zaa];exact eb) (ao (qpv _) (ao (fy rfl (by rw[zaa]) (by omega) (by decide)) (ar (by omega) ?_))));exact hy
  have hs:Mv o (mZ r k.toNat) a p[k.toNat]=o:=by grind [Mv]
  grind)
 (by
  rintro⟨l,o0,p,r,i⟩ o k E hk ⟨⟨hi,U,hpl,hl,he⟩,ho⟩ bF
  try skip
  (rw[<-qbq];delta PL Zfu Au ZfK Zj Zl qO HU kQ ZfJ Zz ZA vY Z8 Z7 Zv Zs fO gA gD fP fQ ZfI ZfH ZfG pd Zfw D7 Ji Rl Zfx iF Z5 Z3K PB Zfs Ei qh Nr p8 PN qU JJ F6 sT Du ZfF ZfC ZfD)
  refine Cj (by omega) (bF _ (λh=>by cases h) ?_);rw[ho,zan])
 (by rintro s E ⟨l,o,p,r,i,rfl,hc,U,hp⟩;refine⟨(l,o,p,r,i),o,rfl,⟨⟨⟨hc.1,hc.2.1⟩,U,hc.2.2.2.1,hc.2.2.2.2.1,hc.2.2.2.2.2⟩,by rfl⟩,?_⟩;grind)
theorem qfu:LD X 104 3 (ah (aV 104 3) qpn):=LD.idx (.cons LH .nil) (.cons qbv .nil)
 (A:=List aS) (B:=List a8) (λl o i=>el9 l o i) (λl=>J l)
 (λl i o=>dm l/\o=ku (l.take i))
 (λl z=>z=(.exit 0,⟨86,[(3,.sl 0 0 (J (ku l)))],[(0,⟨0,Y,CY C (ku l)⟩)]⟩))
 (by
  rintro l o i E h0 dE bB ⟨hc,ho⟩ hn bF
  try skip
  (rw[<-qbr];delta PL Zfu Au ZfK Ji Rl p8 PN T5 Zs Du ZfO Vk Z5 Fy qh Nr Af Zj Zl qO kQ qU JJ F6 sT Zz ZA Cu Z8 Z7 Zv ZfM sC ZfL ZfN Yv jO HW Zn lH ZfF ZfC ZfD)
  have e1:CE (l.map qo) i.toNat=qo l[i.toNat]:=aA _ _ _ bB;have uN:=rW bB;rw[<-ho] at uN;have h1:=qm (l:=l) i.toNat (by omega);have h2:=xX bB;have h3:=Mx l (i.toNat+1);have h4:=hc.2.1;have hl1:=hc.1;have h5:=hc.2.2 _ (zay bB);have h6:=wC l[i.toNat].2.2;have jN:0<=i/\i<(J (l.map qo):Int):=by grind
  rw[e1];generalize l[i.toNat]=r at*
  have hn: ∀U,U=elR o r->E (.normal,el9 l U (i+1)):=λU h=>hn U ⟨hc,by rw[uN];exact h⟩;have jU: ∀p,p=kg r.2.2->0<=i/\i<(J l:Int)/\J l<=1000000/\J p<=100000/\J o+J p<=1000000/\(0<=r.2.1.2.2/\r.2.1.2.2<=1000000000000):=λp hp=>by grind
  refine dv jN.2 (ar jN (ao (UT _) ⟨r.2.2,rfl,rfl,by omega,λhv=>ar jN (ao (UT _) ?_),λhv p hp=>ar jN (ao (UT _) ?_)⟩))
  ·have hp:[]=kg r.2.2:=by unfold kg;rw[hv];rfl
   exact⟨l,o,[],r,i,rfl,jU _ hp,e1,λU nk=>ar (by omega) (hn U (by rw[nk];unfold elR;rw[<-hp]))⟩
  have hp:p=kg r.2.2:=by grind [kg]
  exact⟨l,o,p,r,i,rfl,jU _ hp,e1,λU nk=>ar (by omega) (hn U (by rw[nk];unfold elR;rw[<-hp]))⟩)
 (by
  rintro l o i E hi ⟨hc,ho⟩ bF
  try skip
  (rw[<-qbr];delta PL Zfu Au ZfK Ji Rl p8 PN T5 Zs Du ZfO Vk Z5 Fy qh Nr Af Zj Zl qO kQ qU JJ F6 sT Zz ZA Cu Z8 Z7 Zv ZfM sC ZfL ZfN Yv jO HW Zn lH ZfF ZfC ZfD)
  refine Cj (by rw[zaa];omega) (bF _ (λh=>by cases h) ?_);rw[ho,zan])
 (by rintro s E ⟨l,rfl,hc,hp⟩;refine⟨l,[],rfl,⟨hc,rfl⟩,?_⟩;grind)
theorem qpy:FD X 104 qpp:=IS .nil (.cons qfu .nil) (by
 intro ps R E h;obtain⟨l,rfl,rfl,B,U⟩:=h
 (rw[<-qpo];delta PL Zfu Au ZfK kQ qU ZfP Z5 Us ZV Y1 F6 sT ZfQ)
 grind)
theorem qbw:LD X 66 8 (ah (aV 66 8) qhf):=LD.sw (.cons o8 .nil) .nil
 (A:=List a8×Nat×Int) aF (λa L k=>qku a.1 L a.2.1 a.2.2 k) (λa=>a.2.1) 2 (λa L=>qpq a.1 L a.2.1 a.2.2)
 (by
  rintro⟨l,n,i⟩ o k E hk hN ho hex Pn;dsimp only at*
  (rw[<-qkv];delta vU PL Zfu Au Zj Zl sq Ia kQ qU ZfR ZfS Zs nT RD H8 H9 Za Zb Vo Nj Nk Zbf Zbg Zbi ZG Z7t Zn Zk sM Zbk D9 wR Z8 Z7 Z9 Vy tA jA ZF)
  refine b8 (λh=> ?_) λ_=>hex;obtain⟨x,y,e1,e2,e3,B⟩:=Pn h;rw[e1,e2];simp only[e3,zaa,zbi,ho]
  repeat' first |exact hex |exact B |refine ar (by omega) ?_ |refine ao (jG _) ?_ |refine⟨_,_,_,_,_,_,rfl,rfl,b8 (λ_=> ?_) λ_=>hex⟩)
 (by rintro s E ⟨l,o,L,n,i,k,rfl,rfl,⟨h1,h2,U⟩,h⟩;exact⟨(l,n,i),o,k,rfl,h1,h2,U,h⟩)
theorem qfv:LD X 66 4 (ah (aV 66 4) qpr):=LD.wk .nil (.cons qbw .nil)
 (A:=List a8) (B:=List ak) (λl o i=>es9 l o i) (λl=>J l) (λl i o=>J l<=1000000/\J o=i)
 (λl x=> ∃o:List ak,J o=J l/\x=(.exit 0,⟨64,[(6,.sl 0 0 (J o))],[(0,⟨0,Y,fw C o⟩)]⟩))
 (by
  rintro l o i E h0 dE ⟨hm,ho⟩ hn bF
  try skip
  (rw[<-qkw];delta eM tj Ej dK sg ZbL Zz ZA ZR Z8 Z7 Zv RE vU Zj Zl Ei Zbr Ia Zs PL ZfA ZfU ZfT ZfV OU Zfu Au sq kQ qU ZfR ZfW oH XY ZfB Zfz zb Zfy Zfm)
  simp only[zaa,zav,zaI,zaE];refine b8 (λaZ=> ?_) λ_=>bF _ _ (λh=>by cases h) ⟨o,by omega,rfl⟩;have U:i.toNat<J l:=by omega
  rw[aA qo l _ U];generalize l[i.toNat]=d;refine ar ⟨h0,aZ⟩ (ar U (ao (qpu _) (ao ?_ (ar (by omega) ⟨l,o++[d.1],_,J o+1,i,_,rfl,bx aF o d.1,⟨⟨by omega,by omega⟩,by omega,by simp⟩,λo' nk=>ar (by omega) ?_⟩))))
  ·rw[zac];exact⟨by simp,dw (by omega) (by omega)⟩
  grind)
 (by rintro s E ⟨l,rfl,hs,hp⟩;grind)
theorem qpz:FD X 66 qpt:=IS (.cons qpw (.cons qpy .nil)) (.cons qfv .nil) (by
 intro ps R E hh;obtain⟨l,x,rfl,rfl,⟨U,h2,h⟩,hp⟩:=hh
 (rw[<-qps];delta eM tj Ej dK sg Zbw kQ ZfG xH ZbM PL Zfu Au Z5 xD Af Z82 qU ZfR F6 ZfX sC Zf7 sv Zfd Zn fO gA gD fP fQ fe gW ia jf)
 refine⟨l,x,rfl,rfl,⟨U,h2⟩,λr B=>⟨r,by rw[zak (by simp)],rfl,by rw[B];exact h,λo ho=> ?_⟩⟩;have:=qm (l:=r) _ (zag _);have:=h.2.1;grind)
end
abbrev wF q l (ps:List (List UInt8)) p i k tl:=[(3,q),(4,.mp 1 0),(9,.ref 2 0 0),(10,.ref 3 0 0),(12,.d (.str p)),(19,jI l),(20,iD (J l)),(21,iD i),(35,.sl 4 0 (J ps)),(36,iD (J ps)),(37,iD k)]++tl
abbrev kK(o:En) had c a x ps tl:=[(0,o),(1,⟨0,Y,.map 49 had c C⟩),(2,⟨0,Y,sS a⟩),(3,⟨0,Y,sS x⟩),(4,⟨0,Y,US C ps⟩)]++tl
def Zg8 x p:=BC [fQ x,fP x,gA x,GT p]
def Zg9 x p:=(1057,AC 0 Y (Cs (180:I) C [Zg8 x p]))
def Zg7:=(51,P.mp 0 1)
def Zg6 ps:=(36,Do (we GE (↑(p8 ps):Int)))
def Zg5 ps:=(35,IH 4 0 (p8 ps))
def Zg4 i:=(21,Zl i)
def VE l:=(20,Do (we GE (↑(sC l):Int)))
def UU l:=(19,F6 l)
def Zg1 p:=(12,Do (GT p))
def Zg0:=(10,PB)
def F8:=(9,qh)
def Sp:=(4,P.mp 1 0)
theorem qkx l B na h c a x p ps i k E:(E (AS 77 [MC,Sp,F8,Zg0,Zg1 p,UU l,VE l,Zg4 i,Zg5 ps,Zg6 ps,(37,Zl k),Zg7,(52,Do (fe a)),(54,Do (fe x)),(55,Do (GT p)),(56,Do (Zg8 x p)),(57,IH 1057 0 1)] [(0,AC 1 Y (qw B na)),I7 h c,D7 a,Zfw x,(4,Ji ps),Zg9 x p]))=(FT [] 137 12 0 6 ⟨77,wF (.mp 0 1) l ps p i k [],kK ⟨1,Y,.map 49 B na C⟩ h c a x ps []⟩) E:=by kernel_rfl
def Zgc x p:=[Zg9 x p,(1058,AC 0 Y Obj.cS)]
def Zgb:=[(60,P.mp 1058 0)]
def Av es:=J (tF es)
theorem qky l B na h c a x p ps i k es E:(ob (gr (kQ es) (Av es)&&aB (kQ es+J [Zg8 x p]) 40) (E (AS 77 (MC::Sp::F8::Zg0::Zg1 p::UU l::VE l::Zg4 i::Zg5 ps::Zg6 ps::(37,Zl k)::Zg7::(53,IH 5 0 (kQ es))::(57,IH 1057 0 1)::(58,P.cy [P.bad,P.mp 1058 0])::(59,IH 5 1 (kQ es+J [Zg8 x p]))::Zgb) ((0,AC 1 Y (Obj.fY 49 B na (P.mp 1058 0) (fe a)))::I7 h c::D7 a::Zfw x::(4,Ji ps)::(5,AC 1 Y (Cs (180:I) C (ab (kQ es) (tF es)++[Zg8 x p])))::Zgc x p))))=(FT [] 137 12 8 2 ⟨77,wF (.mp 0 1) l ps p i k [(51,.mp 0 1),(53,.sl 5 0 (J es)),(57,.sl 1057 0 1),(58,.cy [.bad,.mp 1058 0])],kK ⟨1,Y,.fY 49 B na (.mp 1058 0) (aF a)⟩ h c a x ps [(5,⟨0,Y,dY es⟩),(1057,⟨0,Y,dY [(x,a,p)]⟩),(1058,⟨0,Y,.cS⟩)]⟩) E:=by kernel_rfl
theorem qkz l B na h c a x p ps i k b n r E:(E (AS 77 (MC::Sp::F8::Zg0::Zg1 p::UU l::VE l::Zg4 i::Zg5 ps::Zg6 ps::(37,Zl k)::Zg7::(59,Do (D.qz b n r))::Zgb) ((0,AC 1 Y (If 49 (λU=>bif OF (aF a) U then Z (D.qz b n r) else B U) na C))::I7 h c::D7 a::Zfw x::(4,Ji ps)::(5,AC 2 Y Obj.gone)::Zgc x p)))=(FT [] 137 12 10 1 ⟨77,wF (.mp 0 1) l ps p i k [(51,.mp 0 1),(59,.d (.qz b n r)),(60,.mp 1058 0)],kK ⟨1,Y,.fY 49 B na (.mp 1058 0) (aF a)⟩ h c a x ps [(5,⟨2,Y,.gone⟩),(1057,⟨0,Y,dY [(x,a,p)]⟩),(1058,⟨0,Y,.cS⟩)]⟩) E:=by kernel_rfl
theorem IK{α:Type}(f:Nat->Bool){t p}: ∀{l:List (Nat×α)},lk (l.filter λx=>f x.1) t=Z p->f t=O/\lk l t=Z p
 | [],h=>by cases h
 | (k,v)::l,h=>by
  cases B:f k with
  |true=>
   rw[zdr (by exact B)] at h;unfold lk at h⊢;split
   ·simp_all
   rename_i e;rw[zat e] at h;exact IK f h
  |false=>rw[zdq (by simp[B])] at h;have h:=IK f h;grind [lk,pt]
section
variable{T:Tg}{F:Nat->Prop}{G:Nat->W}{w:World}{a:Act}{s:S}
theorem ax.F9(h:ax PR T F G w a s)(f:Nat->Bool):ax PR T F G w a ⟨s.n,s.tm.filter (λx=>f x.1),s.rg⟩:=
 ⟨h.oR,h.size,λt p B=>h.tm t p (IK f B).2,h.rg,h.own,h.jb,h.gL,h.tag,h.z,h.dr,h.sz⟩
theorem Ext.wide{own w8 F F' w w'}(h:Ext own w8 F F' w w')(B:Nat->Prop):Ext (λb=>own b\/B b) (λb=>w8 b\/B b) F F' w w':=
 ⟨h.iK,λb U=>(h.lz b U).imp id (.imp .inl id),λb U=>U.elim (λU=>(h.jT b U).imp .inl id) λU=> .inl (.inr U),λb U hn=>h.keep b U λho=>hn (.inl ho),h.size,h.os,h.tape,h.output⟩
theorem Ext.le{U B w8 own2' F F' w w'}(h:Ext U w8 F F' w w')(h1: ∀b,U b->B b)(h2: ∀b,own2' b->w8 b):Ext B own2' F F' w w':=
 ⟨h.iK,λb hb=>(h.lz b hb).imp id (.imp (h1 b) id),λb hb=>(h.jT b (h2 b hb)).imp (h1 b) id,λb hb hn=>h.keep b hb λho=>hn (h1 b ho),h.size,h.os,h.tape,h.output⟩
theorem Ext.PO{B w8 F F' w w'}(h:Ext B w8 F F' w w'){c}(U:c<w.heap.size)(h1: ¬B c)(h2: ¬F c): ¬w8 c/\ ¬F' c/\w'.heap[c]?=w.heap[c]?/\c<w'.heap.size:=
 ⟨λho=>(h.jT c ho).elim h1 λhs=>absurd U (Nat.not_lt.2 hs),λhf=>(h.lz c hf).elim h2 λho=>ho.elim h1 λhs=>absurd U (Nat.not_lt.2 hs),h.keep c U h1,zaR U h.size⟩
theorem qM.lt{w x}(h:qM w x):x.2.2.1<w.heap.size:=by obtain⟨_,cs,B,_⟩:=h;grind
theorem qkA a:(λx:bK=>OF (aF x.1) (aF a))=λx=>x.1==a:=by funext x;rw[zbf,nX,zbV]
theorem qbx{al} a:aQ al (aF a)=(al.find? λx=>x.1==a).map kJ:=by unfold aQ;rw[qkA]
theorem qfw{al:List bK}{m:MM}(h:al.map (λx=>(x.1,x.2.1))=m) a:getM m a=match al.find? (λx=>x.1==a) with |Z y=>y.2.1 |Y=>[]:=by rw[<-h];unfold getM;rw[zcU];have:(λx:ak×List a8=>x.1==a)∘(λx:bK=>(x.1,x.2.1))=λx=>x.1==a:=rfl;rw[this];cases al.find? (λx=>x.1==a)<;>rfl
theorem qkB{nn}(h:ax PR T F G w a s)(Qo:lk s.rg nn=Y):
  ax PR T F (Pi.gj G nn (.slice Y 0 0)) w a ⟨s.n,s.tm,ins nn ⟨0,Y,dY []⟩ s.rg⟩/\ ∀c,Own (Pi.gj G nn (.slice Y 0 0)) (ins nn ⟨0,Y,dY []⟩ s.rg) c->Own G s.rg c:=by
 have cD: ∀c,¬a7 (.slice Y 0 0) (dY []) c:=λc B=>by have:=B.2;cases this
 obtain⟨h2,_⟩:=h.KQ (n:=nn) (e1:=⟨0,Y,dY []⟩) (g1:= .slice Y 0 0) (λe U=>by rw[Qo] at U;cases U) (λc B=>(cD c B).elim) (.inl ⟨aM _ _ _,rfl⟩) (λi hi=>by cases hi) (λc B=>(cD c B).elim);refine⟨h2,λc ⟨n,e,U,B⟩=> ?_⟩;by_cases hn:nn=n
 ·grind [aX,aM]
 rw[br _ _ hn] at U;rw[bW _ (za0 hn)] at B;exact⟨n,e,U,B⟩
end
def qpB:=Z ([3,4,9,10,12,19,20,21,35,36,37],[3,4,9,10,12,19,20,21,35,36,37])
def g12:S->K (PX×S):=λs E=> ∃m l h c a x p ps i k,s=⟨77,wF (.wV 0 0) l ps p i k [],kK (gR m) h c a x ps []⟩/\J (getM m a)<1000000/\E (.normal,⟨77,wF (.wV 0 0) l ps p i k [],kK (gR (xY m a (x,a,p))) h c a x ps []⟩)
theorem qsD:nP PR 137 12= .region 12 (opsOf 137 12).toArray C:=by rfl
abbrev s12(l:List aS)(B:D->Option D)(na:Int)(h:D->Option D)(c:Int)(a x:ak)(p:List UInt8)(ps:List (List UInt8))(i k:Int):S:=
 ⟨77,wF (.mp 0 1) l ps p i k [(51,.mp 0 1),(52,.d (aF a)),(54,.d (aF x)),(55,.d (.str p)),(56,.d (cx (x,a,p))),(57,.sl 1057 0 1)],kK ⟨1,Y,.map 49 B na C⟩ h c a x ps [(1057,⟨0,Y,dY [(x,a,p)]⟩)]⟩
abbrev qpC(l:List aS)(B:D->Option D)(na:Int)(h:D->Option D)(c:Int)(a x:ak)(p:List UInt8)(ps:List (List UInt8))(i k:Int):S:=
 ⟨77,wF (.mp 0 1) l ps p i k [(51,.mp 0 1),(52,.d (aF a)),(54,.d (aF x)),(55,.d (.str p)),(56,.d (cx (x,a,p))),(57,.sl 1057 0 1),(58,.cy [.d (aK (B (aF a)) .cd),.mp 1058 0])],kK ⟨1,Y,.fY 49 (aW (aF a) (aK (B (aF a)) .cd) B) (bif (B (aF a)).isSome then na else na+1) (.mp 1058 0) (aF a)⟩ h c a x ps [(1057,⟨0,Y,dY [(x,a,p)]⟩),(1058,⟨0,Y,.cS⟩)]⟩
abbrev PQ(l:List aS)(B:D->Option D)(na:Int)(h:D->Option D)(c:Int)(a x:ak)(p:List UInt8)(ps:List (List UInt8))(i k:Int):S:=
 ⟨77,wF (.mp 0 1) l ps p i k [(51,.mp 0 1),(52,.d (aF a)),(53,.d (aK (B (aF a)) .cd)),(54,.d (aF x)),(55,.d (.str p)),(56,.d (cx (x,a,p))),(57,.sl 1057 0 1),(58,.cy [.d (aK (B (aF a)) .cd),.mp 1058 0])],kK ⟨1,Y,.fY 49 (aW (aF a) (aK (B (aF a)) .cd) B) (bif (B (aF a)).isSome then na else na+1) (.mp 1058 0) (aF a)⟩ h c a x ps [(1057,⟨0,Y,dY [(x,a,p)]⟩),(1058,⟨0,Y,.cS⟩)]⟩
theorem qpD l B na h c a x p ps i k cf: ∃o6 U,(opsOf 137 12).drop 6=o6::U::(opsOf 137 12).drop 8/\
 bw PR cf (opsOf 137 12) (s12 l B na h c a x p ps i k) o6=Z (qpC l B na h c a x p ps i k)/\bw PR cf (opsOf 137 12) (qpC l B na h c a x p ps i k) U=Z (PQ l B na h c a x p ps i k):=⟨_,_,rfl,by kernel_rfl,by rfl⟩
theorem Ga{α:Type}{l:List α}{i v}(h:l.Nodup)(B: ∀j,j≠i->l[j]?≠Z v):(l.set i v).Nodup:=by rw[List.Nodup,zba] at h⊢;intro j k hj hk hjk;have hvj:=B j;have U:=B k;rw[List.getElem_set,List.getElem_set];split<;>split<;>grind
theorem bf.qby{F w v}(h:bf F w v .cd):v= .slice Y 0 0:=by cases h;rfl
theorem bR.qby{F w G R}{B v}(h:bR F w G R B v (.d .cd)):v= .slice Y 0 0:=by
 cases h with
 |d hd=>exact hd.qby
theorem bR.qkC{F w G R}{U v x y}(h:bR F w G R U v (.cy [x,y])):bR F w G R U v (.cy [.bad,y]):=by
 cases h with
 |cy vs _ hl hc=>exact bR.of (.cy vs _ hl λj v c hv B=>by
  match j,B with
  |0,B=>cases B;exact .bad _
  |j+1,B=>grind)
section
variable{X:XF}{w0:World}(hX:b7 PR w0 X.cf)
include hX
theorem qsE:GN w0 137 12 g12:=by
 rintro val lo mk s E ⟨m,l,h,c,a,x,p,ps,i,k,rfl,hlen,hp⟩;rw[qsD];intro r oi F G w ac Q' hs hK;refine wpIn_region_list ?_;obtain⟨b,al,G1,e3,hg,h1,hG1,cU,A3,cD⟩:=qg2 (nb:=0) (vb:=0) (m:=m) hs rfl;have h1:=h1.pY (t:=3) (Sf (hs.tm 3 _ rfl) rfl e3 (v1:=1) (o1:=mapM al) rfl hG1);have h1:ax PR ⟨val,w0,lo,mk⟩ F G1 w ac ⟨77,wF (.mp 0 1) l ps p i k [],kK ⟨1,Y,mapM al⟩ h c a x ps []⟩:=h1;have A3: ∀B,Own G1 (kK ⟨1,Y,mapM al⟩ h c a x ps []) B->Own G (kK (gR m) h c a x ps []) B:=A3;have cD: ∀B∈cG al,¬Own G1 (kK ⟨1,Y,mapM al⟩ h c a x ps []) B/\Own G (kK (gR m) h c a x ps []) B/\ ¬F B:=cD;have gm: ∀a b,b7 PR w0 (eL PR (yP X) a b):=λa b=>lC (kp:=yP X) hX sK b;have esp:opsOf 137 12=(((opsOf 137 12).drop 0).take 6)++(opsOf 137 12).drop 6:=(zbg 6 _).symm
 suffices qhg:wpListIn (wd r) 0 PR (opsOf 137 12).toArray Q' ((((opsOf 137 12).drop 0).take 6)++(opsOf 137 12).drop 6) ac w by rw[<-esp] at qhg;exact qhg
 have hE0:Ext (Own G (kK (gR m) h c a x ps [])) (λB=>Own G1 (kK ⟨1,Y,mapM al⟩ h c a x ps []) B\/B∈cG al) F F w w:=rX λB hc=>hc.elim (A3 B) λhc=>(cD B hc).2.1;refine iS (T:=⟨val,w0,lo,mk⟩) (nx:=fN PR) (kf:=runK PR oB qv [] 60 60) (λ_ _ _ _ h=>h) (λf h (hh:lk [] f=Z h)=>by cases hh) (nR (X:=X) .nil) gm _ [] F G1 w ac _ (iA.nil _) h1 (E:=λs=>s=s12 l (aQ al) (J al) h c a x p ps i k) (by have:=qkx l (aQ al) (J al) h c a x p ps i k (λs=>s=s12 l (aQ al) (J al) h c a x p ps i k);unfold FT at this;rw[<-this];rfl) λs1 a1 w1 oU hP=> ?_;subst oU;obtain⟨F1,G2,k1,k2⟩:=hP;have haw: ∀y∈al,¬Own G2 (s12 l (aQ al) (J al) h c a x p ps i k).rg y.2.2.1/\ ¬F1 y.2.2.1/\w1.heap[y.2.2.1]?=w.heap[y.2.2.1]?/\y.2.2.1<w1.heap.size:=λy hy=>by have hm:y.2.2.1∈cG al:=zal.2 ⟨y,hy,rfl⟩;exact k2.PO (hg.f y hy).lt (cD _ hm).1 (cD _ hm).2.2
 have hE1:=hE0.trans (k2.wide (· ∈cG al));obtain⟨o6,o7,ed,e6,e7⟩:=qpD l (aQ al) (J al) h c a x p ps i k (eL PR (yP X) 0 0);rw[ed];refine cJ (eU (gm 0 0) k1 e6 λa2 w2 ⟨F2,G3,m1,m2⟩=> ?_);refine cJ (eU (gm 0 0) m1 e7 λa3 w3 ⟨F3,G4,n1,n2⟩=> ?_);have hE3:=(hE1.trans (m2.wide (· ∈cG al))).trans (n2.wide (· ∈cG al));have qpE: ∀y∈al,¬Own G4 (PQ l (aQ al) (J al) h c a x p ps i k).rg y.2.2.1/\ ¬F3 y.2.2.1/\qM w3 y:=λy hy=>by obtain⟨c1,c2,c3,c4⟩:=haw y hy;obtain⟨d1,d2,d3,d4⟩:=m2.PO c4 c1 c2;obtain⟨f1,f2,f3,f4⟩:=n2.PO d4 d1 d2;exact⟨f1,f2,(hg.f y hy).keep (f3.trans (d3.trans c3))⟩
 have hR4:ax PR ⟨val,w0,lo,mk⟩ F3 G4 w3 a3 (PQ l (aQ al) (J al) h c a x p ps i k):=n1;have qfx:=n1.tm 53 _ rfl;have key: ∃es G5,getM m a=es/\ax PR ⟨val,w0,lo,mk⟩ F3 G5 w3 a3 ⟨77,ins 53 (.sl 5 0 (J es)) (PQ l (aQ al) (J al) h c a x p ps i k).tm,ins 5 ⟨0,Y,dY es⟩ (PQ l (aQ al) (J al) h c a x p ps i k).rg⟩/\
   (∀B,Own G5 (ins 5 ⟨0,Y,dY es⟩ (PQ l (aQ al) (J al) h c a x p ps i k).rg) B->Own G4 (PQ l (aQ al) (J al) h c a x p ps i k).rg B\/ ∃y∈al,y.1=a/\y.2.2.1=B)/\
   (∀n,n≠5->G5 n=G4 n):=by
  have e1:=qfw hg.a a;have e2:=qbx (al:=al) a;cases hf:al.find? (λx=>x.1==a) with
  |none=>rw[hf] at e1 e2;have e2:aQ al (aF a)=Y:=e2;obtain⟨q1,q2⟩:=qkB n1 (nn:=5) rfl;refine⟨[],_,e1,q1.pY (t:=53) (p:= .sl 5 0 0) ?_,λB hc=> .inl (q2 B hc),λn hn=>bW _ hn⟩;rw[e2] at qfx;rw[qfx.qby];exact .sl 5 0 _ _ rfl ⟨_,rfl,zag _,λ_ _=>⟨_,_,_,aM _ _ _,rfl,zag _⟩⟩
  |some y=>
   rw[hf] at e1 e2;have e2:aQ al (aF a)=Z (kJ y):=e2;have hy:=zb3 hf;have hya:y.1=a:=by simpa using zdk hf
   obtain⟨c1,c2,c3⟩:=qpE y hy;obtain⟨q1,q2⟩:=qkg n1 (nn:=5) rfl c3 c2 c1;refine⟨y.2.1,_,e1,q1.pY (t:=53) (p:= .sl 5 0 (J y.2.1)) ?_,λB hc=> ?_,λn hn=>bW _ hn⟩
   ·rw[e2] at qfx;exact Sg (nn:=5) qfx rfl (aM _ _ _)
   rcases q2 B hc with rfl |hc
   ·exact .inr ⟨y,hy,hya,rfl⟩
   exact .inl hc
 obtain⟨es,G5,Da,q1,q2,q3⟩:=key;have r2:=(q1.pY (t:=58) (q1.tm 58 _ rfl).qkC).F9 (λt=>gE t [3,4,9,10,12,19,20,21,35,36,37,51,53,57,58]);have r3:ax PR ⟨val,w0,lo,mk⟩ F3 G5 w3 a3 ⟨77,wF (.mp 0 1) l ps p i k [(51,.mp 0 1),(53,.sl 5 0 (J es)),(57,.sl 1057 0 1),(58,.cy [.bad,.mp 1058 0])],kK ⟨1,Y,.fY 49 (aW (aF a) (aK (aQ al (aF a)) .cd) (aQ al)) (bif (aQ al (aF a)).isSome then(J al:Int) else J al+1) (.mp 1058 0) (aF a)⟩ h c a x ps [(5,⟨0,Y,dY es⟩),(1057,⟨0,Y,dY [(x,a,p)]⟩),(1058,⟨0,Y,.cS⟩)]⟩:=r2;have e8:(opsOf 137 12).drop 8=((opsOf 137 12).drop 8).take 2++(((opsOf 137 12).drop 10).take 1++[]):=by kernel_rfl
 rw[e8];have hlen:J es<1000000:=by rw[<-Da];exact hlen
 refine iS (T:=⟨val,w0,lo,mk⟩) (nx:=fN PR) (kf:=runK PR oB qv [] 60 60) (λ_ _ _ _ h=>h) (λf h (hh:lk [] f=Z h)=>by cases hh) (nR (X:=X) .nil) gm _ [] F3 G5 w3 _ _ (iA.nil _) r3 (E:=λs=>s=⟨77,wF (.mp 0 1) l ps p i k [(51,.mp 0 1),(53,.sl 5 0 (J es)),(57,.sl 1057 0 1),(58,.cy [.bad,.mp 1058 0]),(59,.sl 5 1 (J (es++[(x,a,p)]))),(60,.mp 1058 0)],kK ⟨1,Y,.fY 49 (aW (aF a) (aK (aQ al (aF a)) .cd) (aQ al)) (bif (aQ al (aF a)).isSome then(J al:Int) else J al+1) (.mp 1058 0) (aF a)⟩ h c a x ps [(5,⟨1,Y,dY (es++[(x,a,p)])⟩),(1057,⟨0,Y,dY [(x,a,p)]⟩),(1058,⟨0,Y,.cS⟩)]⟩) (by have:=qky l (aW (aF a) (aK (aQ al (aF a)) .cd) (aQ al)) (bif (aQ al (aF a)).isSome then(J al:Int) else J al+1) h c a x p ps i k es;unfold FT at this;rw[<-this];delta tF kQ;refine ao (fy rfl (by delta tF;rw[zaa]) (by omega) (by decide)) ?_;rw[show dY (es++[(x,a,p)])= .arr 180 C (ab (J es) (es.map cx)++[cx (x,a,p)]) by rw[bx],zaf];rfl) λs4 a4 w4 hs4 hP=> ?_;subst hs4;obtain⟨F4,G6,k3,k4⟩:=hP;have qsF:es++[(x,a,p)]≠[]:=by simp
 obtain⟨tE,cap,ou,BB,Vg⟩:=qg3 (nn:=5) qsF k3 rfl;have t1:=k3.pY (t:=59) (p:= .d (.qz tE (J (es++[(x,a,p)])) cap)) (qa5 (nn:=5) (k3.tm 59 _ rfl) rfl rfl ou);obtain⟨t2,t3⟩:=qg4 (t1.F9 (λt=>gE t [3,4,9,10,12,19,20,21,35,36,37,51,59,60])) (n3:=5) rfl;have t4:ax PR ⟨val,w0,lo,mk⟩ F4 (Pi.gj G6 5 undef) w4 a4 ⟨77,wF (.mp 0 1) l ps p i k [(51,.mp 0 1),(59,.d (.qz tE (J (es++[(x,a,p)])) cap)),(60,.mp 1058 0)],kK ⟨1,Y,.fY 49 (aW (aF a) (aK (aQ al (aF a)) .cd) (aQ al)) (bif (aQ al (aF a)).isSome then(J al:Int) else J al+1) (.mp 1058 0) (aF a)⟩ h c a x ps [(5,⟨2,Y,.gone⟩),(1057,⟨0,Y,dY [(x,a,p)]⟩),(1058,⟨0,Y,.cS⟩)]⟩:=t2;have C7: ¬Own (Pi.gj G6 5 undef) (kK ⟨1,Y,.fY 49 (aW (aF a) (aK (aQ al (aF a)) .cd) (aQ al)) (bif (aQ al (aF a)).isSome then(J al:Int) else J al+1) (.mp 1058 0) (aF a)⟩ h c a x ps [(5,⟨2,Y,.gone⟩),(1057,⟨0,Y,dY [(x,a,p)]⟩),(1058,⟨0,Y,.cS⟩)]) tE:=λho=>by obtain⟨n,e,hn,he,hb⟩:=t3 tE ho;exact hn (k3.own 5 n _ _ tE rfl he BB hb)
 refine iS (T:=⟨val,w0,lo,mk⟩) (nx:=fN PR) (kf:=runK PR oB qv [] 60 60) (λ_ _ _ _ h=>h) (λf h (hh:lk [] f=Z h)=>by cases hh) (nR (X:=X) .nil) gm _ [] F4 _ w4 _ _ (iA.nil _) t4 (E:=λs=>s=⟨77,wF (.mp 0 1) l ps p i k [(51,.mp 0 1),(59,.d (.qz tE (J (es++[(x,a,p)])) cap)),(60,.mp 1058 0)],kK ⟨1,Y,.map 49 (λk'=>bif OF (aF a) k' then Z (.qz tE (J (es++[(x,a,p)])) cap) else aW (aF a) (aK (aQ al (aF a)) .cd) (aQ al) k') (bif (aQ al (aF a)).isSome then(J al:Int) else J al+1) C⟩ h c a x ps [(5,⟨2,Y,.gone⟩),(1057,⟨0,Y,dY [(x,a,p)]⟩),(1058,⟨0,Y,.cS⟩)]⟩) (by have:=qkz l (aW (aF a) (aK (aQ al (aF a)) .cd) (aQ al)) (bif (aQ al (aF a)).isSome then(J al:Int) else J al+1) h c a x p ps i k tE (J (es++[(x,a,p)])) cap;unfold FT at this;rw[<-this];rfl) λs5 a5 w5 hs5 hP=> ?_;subst hs5;obtain⟨F5,G7,v1,v2⟩:=hP;have hE4:=hE3.le (own2':=λB=>Own G5 (kK ⟨1,Y,.fY 49 (aW (aF a) (aK (aQ al (aF a)) .cd) (aQ al)) (bif (aQ al (aF a)).isSome then(J al:Int) else J al+1) (.mp 1058 0) (aF a)⟩ h c a x ps [(5,⟨0,Y,dY es⟩),(1057,⟨0,Y,dY [(x,a,p)]⟩),(1058,⟨0,Y,.cS⟩)]) B\/B∈cG al) (λ_ h=>h) λB hc=>by
  rcases hc with hc |hc
  ·rcases q2 B hc with hc | ⟨y,hy,_,e⟩
   ·exact .inl hc
   exact .inr (zal.2 ⟨y,hy,e⟩)
  exact .inr hc
 have hE5:=hE4.trans (k4.wide (· ∈cG al));have hE6:=hE5.le (own2':=λB=>Own (Pi.gj G6 5 undef) (kK ⟨1,Y,.fY 49 (aW (aF a) (aK (aQ al (aF a)) .cd) (aQ al)) (bif (aQ al (aF a)).isSome then(J al:Int) else J al+1) (.mp 1058 0) (aF a)⟩ h c a x ps [(5,⟨2,Y,.gone⟩),(1057,⟨0,Y,dY [(x,a,p)]⟩),(1058,⟨0,Y,.cS⟩)]) B\/(B∈cG al\/B=tE)) (λ_ h=>h) λB hc=>by
  rcases hc with hc |hc |rfl
  ·obtain⟨n,e,_,he,hb⟩:=t3 B hc;exact .inl ⟨n,e,he,hb⟩
  ·exact .inr hc
  exact .inl ⟨5,_,rfl,BB⟩
 have hE7:=hE6.trans (v2.wide (λB=>B∈cG al\/B=tE));have rj:tE<w4.heap.size:=(Vg a).lt;have hbF: ¬F4 tE:=k3.jb 5 _ tE rfl BB;obtain⟨b1,b2,b3,b4⟩:=v2.PO rj C7 hbF;have qpF:qM w5 (a,es++[(x,a,p)],tE,cap):=(Vg a).keep b3;have hold: ∀z∈al,z.1≠a-> ¬Own G7 _ z.2.2.1/\ ¬F5 z.2.2.1/\qM w5 z/\z.2.2.1≠tE:=λz U hza=>by
  obtain⟨c1,c2,c3⟩:=qpE z U;have c4:=c3.lt;have d0: ¬Own G5 (kK ⟨1,Y,.fY 49 (aW (aF a) (aK (aQ al (aF a)) .cd) (aQ al)) (bif (aQ al (aF a)).isSome then(J al:Int) else J al+1) (.mp 1058 0) (aF a)⟩ h c a x ps [(5,⟨0,Y,dY es⟩),(1057,⟨0,Y,dY [(x,a,p)]⟩),(1058,⟨0,Y,.cS⟩)]) z.2.2.1:=λho=>by
   rcases q2 _ ho with ho | ⟨y,hy,hya,e⟩
   ·exact c1 ho
   have mr:=(zaU.1 hg.nd).2;have:=kG mr y hy z U e;exact hza (this▸hya)
  obtain⟨d1,d2,d3,d4⟩:=k4.PO c4 d0 c2;obtain⟨f1,f2,f3,f4⟩:=v2.PO d4 (λho=>by obtain⟨n,e,_,he,hb⟩:=t3 _ ho;exact d1 ⟨n,e,he,hb⟩) d2;exact⟨f1,f2,c3.keep (f3.trans d3),λe=>d1 (by rw[e];exact⟨5,_,rfl,BB⟩)⟩
 have fin: ∀al':List bK,al'.map (λx=>(x.1,x.2.1))=xY m a (x,a,p)->
   (λk'=>bif OF (aF a) k' then Z (kJ (a,es++[(x,a,p)],tE,cap)) else aQ al k')=aQ al'->(bif (aQ al (aF a)).isSome then(J al:Int) else J al+1)=J al'->(al'.map (·.1)).Nodup->(cG al').Nodup->
   (∀z∈al',z=(a,es++[(x,a,p)],tE,cap)\/(z∈al/\z.1≠a))->wpListIn (wd r) 0 PR (opsOf 137 12).toArray Q' [] a5 w5:=by
  intro al' ha hv hc hk mr U;have ev:(λk'=>bif OF (aF a) k' then Z (.qz tE (J (es++[(x,a,p)])) cap) else aW (aF a) (aK (aQ al (aF a)) .cd) (aQ al) k')=aQ al':=by rw[<-hv];funext k';unfold aW;cases OF (aF a) k'<;>rfl
  rw[ev,hc] at v1 hE7 b1 hold;obtain⟨b',esM,ck,g1,g2,g3,_⟩:=v1.rg 0 _ rfl;have yH:a7 (G7 0) (mapM al') b':=by rw[g1];simp[a7,aI]
  have NZ: ∀B∈cG al',¬F5 B/\ ∀n e,lk (kK ⟨1,Y,mapM al'⟩ h c a x ps [(5,⟨2,Y,.gone⟩),(1057,⟨0,Y,dY [(x,a,p)]⟩),(1058,⟨0,Y,.cS⟩)]) n=Z e-> ¬a7 (G7 n) e.obj B:=λB nJ=>by
   obtain⟨z,hzm,rfl⟩:=zal.1 nJ;rcases U z hzm with rfl | ⟨h1,h2⟩
   ·exact⟨b2,λn e he hb=>b1 ⟨n,e,he,hb⟩⟩
   obtain⟨o1,o2,_⟩:=hold z h1 h2;exact⟨o2,λn e he hb=>o1 ⟨n,e,he,hb⟩⟩
  have hgm:GM (xY m a (x,a,p)) w5 b' al':=⟨ha,zaU.2 ⟨λhm=>(NZ b' hm).2 0 _ rfl yH,mr⟩,hk,⟨esM,ck,g2,g3.qz⟩,λz hzm=>by
   rcases U z hzm with rfl | ⟨h1,h2⟩
   ·exact qpF
   exact(hold z h1 h2).2.2.1⟩
  obtain⟨G8,u1,u2,u3⟩:=qa6 v1 (nb:=0) rfl yH hgm NZ;have u4:=u1.pY (t:=3) (p:= .wV 0 2) (Mz (v1.tm 3 _ rfl) rfl rfl g1 rfl u2);obtain⟨G9,x1,x2⟩:=eA (keep:=qpB) (s0:=⟨77,wF (.wV 0 0) l ps p i k [],kK (gR (xY m a (x,a,p))) h c a x ps []⟩) u4 (by kernel_rfl);refine hK .normal _ a5 w5 hp ⟨F5,G9,x1,(hE7.le (λ_ h=>h) λB nJ=> ?_).trans x2⟩;rcases u3 B nJ with nJ |nJ
  ·exact .inl nJ
  obtain⟨z,hzm,rfl⟩:=zal.1 nJ;rcases U z hzm with rfl | ⟨h1,_⟩
  ·exact .inr (.inr rfl)
  exact .inr (.inl (zal.2 ⟨z,h1,rfl⟩))
 have mr:=(zaU.1 hg.nd).2;have qfy:m.findIdx? (λx=>x.1==a)=al.findIdx? (λx=>x.1==a):=by rw[<-hg.a,List.findIdx?_map];rfl
 cases hi:al.findIdx? (λx=>x.1==a) with
 |none=>
  have cD: ∀z∈al,z.1≠a:=λz U=>by simpa using zbR.1 hi z U
  have qhJ:es=[]:=by rw[<-Da];exact getM_none (qfy.trans hi)
  subst qhJ;refine fin (al++[(a,[(x,a,p)],tE,cap)]) ?_ (PF (y:=(a,[(x,a,p)],tE,cap)) cD) ?_ ?_ ?_ λz U=> ?_
  ·rw[Sh (qfy.trans hi),zaC,hg.a];rfl
  ·rw[CU cD,zaf];rfl
  ·rw[zaC,zbx];refine⟨hg.kd,by simp,λu hu v hv e=> ?_⟩;obtain⟨z,U,rfl⟩:=zal.1 hu;simp only[zaS,zcw,zaN] at hv;exact cD z U (e.trans hv)
  ·rw[cG,zaC,zbx];refine⟨mr,by simp,λu hu v hv e=> ?_⟩;obtain⟨z,U,rfl⟩:=zal.1 hu;simp only[zaS,zcw,zaN] at hv;exact(hold z U (cD z U)).2.2.2 (e.trans hv)
  rcases zaK.1 U with U |U
  ·exact .inr ⟨U,cD z U⟩
  exact .inl (zaN.1 U)
 |some j=>
  obtain⟨hl,hja,_⟩:=zbe.1 hi;have hja:al[j].1=a:=by simpa using hja
  have hj:al[j]?=Z al[j]:=zae hl;have hmj:m[j]?=Z (al[j].1,al[j].2.1):=by rw[<-hg.a,zaw,hj];rfl
  have qkD: ∀(n:Nat) z,n≠j->al[n]?=Z z->z.1≠a:=λn z hn U e=>hn (hg.uniq hj n z U (nX.2 (e.trans hja.symm)));have qsG:es=al[j].2.1:=by rw[<-Da];exact(IE (qfy.trans hi) hmj).1
  refine fin (al.set j (a,es++[(x,a,p)],tE,cap)) ?_ ?_ ?_ ?_ ?_ λz U=> ?_
  ·rw[MA (qfy.trans hi) hmj,zbA,hg.a,qsG]
  ·have:=hg.set hj (y:=(a,es++[(x,a,p)],tE,cap)) hja.symm;rw[hja] at this;exact this
  ·have:=hg.at hj;rw[hja] at this;rw[this,zbi];rfl
  ·rw[zbA];refine Ga hg.kd λn hn e=> ?_;rw[zaw] at e;obtain⟨z,U,e⟩:=zap.1 e;exact qkD n z hn U e
  ·rw[cG,zbA];refine Ga mr λn hn e=> ?_;rw[zaw] at e;obtain⟨z,U,e⟩:=zap.1 e;exact(hold z (zas U) (qkD n z hn U)).2.2.2 e
  obtain⟨n,hn⟩:=zaD U;by_cases e:j=n
  ·subst e;rw[zbc hl] at hn;exact .inl (zaT hn).symm
  rw[zbb e] at hn;exact .inr ⟨zas hn,qkD n z (za0 e) hn⟩
end
def Sq:bc:=λps R E=> ∃t,ps=[.d (.str t)]/\R=[]/\J t<=1000000/\ ∀e o,o=kg t->E (.cy [.sl 0 0 (J o),iD e],[(0,⟨0,Y,US C o⟩)])
abbrev gtI(m:MM)(l:List aS)(h:D->Option D)(c:Int)(a x:ak)(ps:List (List UInt8))(i k:Int):S:=⟨77,[(3,.wV 0 0),(4,.mp 1 0),(9,.ref 2 0 0),(10,.ref 3 0 0),(19,jI l),(20,iD (J l)),(21,iD i),(35,.sl 4 0 (J ps)),(36,iD (J ps)),(37,iD k)],kK (gR m) h c a x ps []⟩
abbrev gtH(m:MM)(l:List aS)(h:D->Option D)(c:Int)(i:Int):S:=⟨77,[(3,.wV 0 0),(4,.mp 1 0),(19,jI l),(20,iD (J l)),(21,iD i)],[(0,gR m),(1,⟨0,Y,.map 49 h c C⟩)]⟩
def Zgh h:=[(4,Ji h)]
def Zgk h B:=D7 h::(3,AC 0 Y (H1 (49:I) [Do (fQ h),Do (fP h),Do (we GE (fO h+(1:Int)))]))::Zgh B
def VF:=(3,P.wV 0 0)
def Zgj B bh h U:=[VF,Sp,F8,Zg0,UU B,VE B,Zg4 bh,Zg5 h,Zg6 h,(37,ZA U)]
def Zgi h:=decide (Z7<=fO h+(1:Int)/\fO h+(1:Int)<=Z8)
def Zgl x h c:=(1,AC 0 Y (If 49 (λB=>bif OF (fe x) B then Z (we GE (AM (aK (h (fe x)) Z5)+(1:Int))) else aW (fe x) (aK (h (fe x)) Z5) h B) (bif ir (h (fe x)) then c else c+(1:Int)) C))
def Zgg h:=(0,AC 0 Y (Obj.deep jh (GD h)))
def Zgf B bh h U:=[UU B,VE B,Zg4 bh,Zg5 h,Zg6 h,(37,Zl U)]
def Zgd x h:=aK (aW (fe x) (we GE (AM (aK (h (fe x)) Z5)+(1:Int))) (aW (fe x) (aK (h (fe x)) Z5) h) (fe x)) Z5
theorem qpG m l h c a x ps i k E:(bif decide (k<(↑(p8 ps):Int)) then ob (decide ((0:Int)<=k/\k<(↑(p8 ps):Int))) (ob (decide (Zs k<J (aa GT ps))) (ob (bE PR (9:I) (CE (aa GT ps) (Zs k))) (ob (bE PR (3:I) (aK (h (fe x)) Z5)) (ob (decide (Z7<=AM (aK (h (fe x)) Z5)+(1:Int)/\AM (aK (h (fe x)) Z5)+(1:Int)<=Z8)) (ob (bE PR (3:I) (Zgd x h)) (bif AM (Zgd x h)==(1:Int) then∃ct av B ft nZ bm p U bh cN,AS 77 (VF::Sp::F8::Zg0::(12,Do (GT (Q3 (CE (aa GT ps) (Zs k)))))::Zgf l i ps k) (Zgg m::Zgl x h c::D7 a::Zfw x::Zgh ps)=AS 77 (VF::Sp::F8::Zg0::Zg1 p::Zgf av bh U cN) (Zgg ct::I7 B ft::D7 nZ::Zfw bm::Zgh U)/\J (getM ct nZ)<1000000/\ob (Zgi bm) (ob (Zv cN) (E (AD,AS 77 (Zgj av bh U cN) ((0,AC 0 Y (Obj.deep jh (GD (xY ct nZ (bm,nZ,p)))))::I7 B ft::Zgk bm U)))) else ob (Zgi x) (ob (Zv k) (E (AD,AS 77 (Zgj l i ps k) (Zgg m::Zgl x h c::Zgk x ps)))))))))) else E (DD 2,AS 77 [VF,Sp,UU l,VE l,Zg4 i] [Zgg m,I7 h c]))=(Ap [] [] [(1000012,ah qpB g12)] 137 8 (gtI m l h c a x ps i k)) E:=by kernel_rfl
def qN(U:List ak)(o:List a8):= ∀x,x∈U↔x=aJ\/(o.any λe=>e.1==x)=O
def qpH:S->K (PX×S):=λs E=> ∃l r o U c ps i,s=gtI (mO o) l (cI U) c r.1 r.2.1 ps i 0/\(0<=i/\i<J l/\J l<=1000000/\J ps<=100000/\J o+J ps<=1000000/\J U<=2000000/\(0<=r.2.1.2.2/\r.2.1.2.2<=1000000000000))/\qN U o/\
 ∀h B c',h=CR r o ps->qN B h->J B=J U+J ps->E (.exit 2,gtH (mO h) l (cI B) c' i)
def Zgp m:=AS 77 [VF] [Zgg m]
def Zgo(U:List ak) h:=(1,AC 0 Y (If 49 (λd=>match d with |BC [we GE a,we GE b,we GE c]=>if th (a,b,c) U=0 then Y else Z (iE (↑(th (a,b,c) U):Int))|_=>Y) h C))
def Zgn h:=(0,AC 0 Y (Obj.deep jh (GD (mO h))))
def Zgm h B ps:=[VF,Sp,F8,Zg0,UU h,VE h,Zg4 B,Zg5 ps,Zg6 ps,(37,Do Z5)]
theorem qpI m l h c i E:(bif decide (i<(↑(sC l):Int)) then ob (ZfD i l) (ob (ZfF l i) (∃t,[Do (GT (Q3 (xz (Du l i) 6)))]=lH t/\Zn/\jO t<=1000000/\ ∀(_:Int) (o:List (List UInt8)),o=kg t-> ∃av r bC U ft ps B,AS 77 (Zgm l i o) (Zgg m::I7 h c::ZfO l i::(3,AC 0 Y (H1 (49:I) [Do (we GE (AM (xz (Du l i) 3))),Do (we GE (AM (xz (Du l i) 4))),Do (we GE (AM (xz (Du l i) 5)))]))::Zgh o)=AS 77 (Zgm av B ps) (Zgn bC::Zgo U ft::ZfL r::(3,AC 0 Y (H1 (49:I) [Do (we GE (ba (ba (bl r)))),Do (we GE (ba (bl (ba (bl r))))),Do (we GE (ZfM r))]))::Zgh ps)/\((0:Int)<=B/\B<(↑(sC av):Int)/\sC av<=1000000/\p8 ps<=100000/\kQ bC+p8 ps<=1000000/\dK U<=2000000/\(0:Int)<=ZfM r/\ZfM r<=(1000000000000:Int))/\qN U bC/\ ∀o' U' c',o'=CR r bC ps->qN U' o'->dK U'=dK U+p8 ps->ob (Zv B) (E (AD,AS 77 [VF,Sp,UU av,VE av,(21,ZA B)] [Zgn o',Zgo U' c'])))) else E (DD 0,Zgp m))=(Ap [] [(181,Sq)] [(8,ah (aV 137 8) qpH)] 137 3 (gtH m l h c i)) E:=by kernel_rfl
abbrev s1W(l:List aS):S:=⟨77,[(0,jI l),(2,.d .qy),(3,.mp 1015 0),(4,.mp 1016 0),(15,.mp 1015 0),(16,.mp 1016 0),(17,.d (aF aJ)),(18,.mp 1016 0)],[(1015,⟨0,Y,.map 49 (λ_=>Y) 0 C⟩),(1016,⟨0,Y,.map 49 (aW (aF aJ) (iE 1) λ_=>Y) 1 C⟩)]⟩
theorem qsH l cf:anyS PR cf (opsOf 137 1) 7 (ss 7 C) ⟨77,[(0,jI l),(2,.d .qy)],[]⟩=Z (ee 30 (s1W l)):=by kernel_rfl
theorem re1:nP PR 137 1= .region 1 (opsOf 137 1).toArray O:=by kernel_rfl
def qsI:=Z ([0,3,4],[0,3,4])
def g1W:S->K (PX×S):=λs E=> ∃l,s=⟨77,[(0,jI l),(2,.d .qy)],[]⟩/\E (.normal,⟨77,[(0,jI l),(3,.wV 0 0),(4,.mp 1 0)],[(0,gR []),(1,⟨0,Y,.map 49 (cI [aJ]) 1 C⟩)]⟩)
section
variable{X:XF}{w0:World}(hX:b7 PR w0 X.cf)
include hX
theorem qsJ:GN w0 137 1 g1W:=by
 rintro val lo mk s E ⟨l,rfl,hp⟩;rw[re1];refine TW.KP λF G w a hs=>⟨F,G,_,_,hs,No _ _ _,TW.any (lC (kp:=yP X) (lf:=0) hX sK 0) sK (n:=30) (s1:=s1W l) (qsH l _),λe s2 F2 G2 w2 a2 BB B k2=> ?_⟩
 cases BB;obtain⟨b',esM,ck,g1,g2,g3,_⟩:=B.rg 1015 _ rfl;have yH:a7 (G2 1015) (.map 49 (λ_=>Y) 0 C) b':=by rw[g1];simp[a7,aI]
 obtain⟨G3,u1,u2,u3⟩:=qa6 (m':=[]) (al':=[]) B (nb:=1015) rfl yH ⟨rfl,by simp,by simp,⟨esM,ck,g2,g3.qz (al:=[])⟩,λ_ h=>by cases h⟩ (λc U=>by cases U);have u4:=u1.pY (t:=3) (p:= .wV 1015 1) (Mz (B.tm 3 _ rfl) rfl rfl g1 rfl u2);obtain⟨G4,x1,x2⟩:=eA (keep:=qsI) (s0:=⟨77,[(0,jI l),(3,.wV 0 0),(4,.mp 1 0)],[(0,gR []),(1,⟨0,Y,.map 49 (aW (aF aJ) (iE 1) λ_=>Y) 1 C⟩)]⟩) u4 (by kernel_rfl);have e1:aW (aF aJ) (iE 1) (λ_=>Y)=cI [aJ]:=by have:=Ii [] aJ;rw[Po] at this;exact this
 rw[e1] at x1 x2;exact⟨F2,G4,_,x1,(k2.le (λ_ h=>h) λc U=>(u3 c U).elim id λh=>by cases h).trans x2,hp⟩
end
abbrev poH(s:List UInt8)(o:List (List UInt8))(h:Nat):S:=⟨22,[(4,.sl 0 0 (J o)),(12,.ref 1 0 0)],[(0,⟨0,Y,.arr 9 C (o.map GT)⟩),(1,⟨0,Y,.ji s h⟩)]⟩
def Zgq s h:=[GT (Array.toList (ByteArray.data (Utf8.encode (↑(ba (Utf8.decode (gz (Array.mk s)) h)):Int))))]
theorem qpJ s o h E:(bif decide (h<jO s) then ob (gr (p8 o) (J (aa GT o))&&aB (p8 o+J (Zgq s h)) 16) (E (AD,AS 22 [(4,IH 0 0 (p8 o+J (Zgq s h))),(12,jB)] [(0,AC 0 Y (Cs (9:I) C (ab (p8 o) (aa GT o)++Zgq s h))),(1,AC 0 Y (Obj.ji s (h+bl (Utf8.decode (gz (Array.mk s)) h))))])) else E (DD 0,AS 22 [(4,IH 0 0 (p8 o))] (Z55 o)))=(bV [] [] [] 181 5 (poH s o h)) E:=by kernel_rfl
def gPo:S->K (PX×S):=λh E=> ∃s,h=poH s [] 0/\(J s<=2000000/\Lib.validD s=O)/\ ∀o,o=DY s->E (.exit 0,⟨22,[(4,.sl 0 0 (J o))],[(0,⟨0,Y,.arr 9 C (o.map GT)⟩)]⟩)
def Zgr h:=AS 22 [(4,ZV),(12,jB)] [(0,Vk),(1,AC 0 Y (Obj.ji h 0))]
theorem qpK s E:(∃B,lH s=lH B/\Zn/\HW B/\bif !Lib.validD B then Z52 E else∃h,Zgr s=Zgr h/\(HW h/\T5 h)/\Z59 h E)=(fK [(154,O5)] [] [(5,ah (aV 181 5) gPo)] 181 [sD s] []) E:=by kernel_rfl
theorem qkE s h:Utf8.decode (gz (Array.mk s)) h=Lib.decodeL (s.drop h):=(Lib.decodeL_drop ⟨⟨s⟩⟩ h).symm
theorem qkF{l}(B:l≠[])(h: ¬((Lib.decodeL l).1=65533/\(Lib.decodeL l).2=1)):(Utf8.encode ((Lib.decodeL l).1:Int)).data.toList=l.take (Lib.decodeL l).2:=by
 rw[<-Lib.encode_decode l B h];unfold Lib.encodeRune;rw[<-Go.Extern.FmtText.encode_eq];unfold Go.Extern.FmtText.nums;rw[zbr]
 symm
 refine(zaY λb _=> ?_).trans (zci _);show((b.toNat:Int).toNat).toUInt8=b;simp
section
variable{X:XF}{w0:World}(hX:b7 PR w0 X.cf)
include hX
theorem qsK:LN w0 181 5 (ah (aV 181 5) gPo):=LN.par hX (by kernel_rfl) .nil .nil .nil
 (A:=List UInt8) (B:=List (List UInt8)×Nat) (λs b=>poH s b.1 b.2)
 (λs b=>J s<=2000000/\b.2<=J s/\J b.1<=b.2/\Lib.validD (s.drop b.2)=O/\b.1++DY (s.drop b.2)=DY s)
 (λs b=>J s-b.2)
 (λs x=>x=(.exit 0,⟨22,[(4,.sl 0 0 (J (DY s)))],[(0,⟨0,Y,.arr 9 C ((DY s).map GT)⟩)]⟩))
 (by
  rintro s ⟨o,U⟩ ⟨h1,h2,h3,h4,h5⟩;dsimp only at*
  (rw[<-qpJ];delta Ji Z55 jB Zgq p8 jO)
  refine b8 (λhp=> ?_) λhp=> ?_
  ·have cU:s.drop U≠[]:=by intro e;have:=congrArg J e;rw[zaX] at this;simp at this;omega
   have hv:=h4;rw[Lib.validD_step _ cU] at hv;have qpL: ¬((Lib.decodeL (s.drop U)).1=65533/\(Lib.decodeL (s.drop U)).2=1):=λh=>by rw[zau h] at hv;cases hv
   rw[zat qpL,zcy] at hv;have iM:=Cd cU;have hw:=sj cU;rw[zcy] at iM;rw[qkE,qkF cU qpL,bx GT];have hwl:U+(Lib.decodeL (s.drop U)).2<=J s:=by have:=Lib.decodeL_le _ cU;rw[zaX] at this;omega
   refine ao (fy rfl (by rw[zaa]) (by omega) (by decide)) ⟨_,?_,(o++[(s.drop U).take (Lib.decodeL (s.drop U)).2],U+(Lib.decodeL (s.drop U)).2),?_,⟨h1,hwl,by rw[zaf];simp only[zav,zaI];omega,hv,by rw[zaW,<-h5,iM];rfl⟩,rfl⟩
   ·omega
   simp only[poH,zaf];rfl
  have:U=J s:=by omega
  subst this;rw[zcl,Rm,zaL] at h5;subst h5;rfl)
 (by rintro s E ⟨s1,rfl,⟨h1,h2⟩,hp⟩;exact⟨s1,([],0),rfl,⟨h1,za4 _,zag _,h2,rfl⟩,λx hx=>hx▸hp _ rfl⟩)
theorem qfz:ND w0 181 Sq:=ND.mk hX (.cons Rk .nil) .nil (Lu.hks (.cons (qsK hX) .nil) (by rfl)) (by
 intro ps R E hh;obtain⟨t,rfl,rfl,ht,B⟩:=hh
 (rw[<-qpK];delta Ji Z55 Z5 QR p8 Z59 T5 Vk jB ZV Zgr Z4t Z52 jO HW Zn lH)
 refine⟨t,rfl,rfl,by omega,?_⟩;cases h:Lib.validD t with
 |false=>exact B 60 [] (by unfold kg;rw[h];rfl)
 |true=>exact⟨t,rfl,⟨by omega,h⟩,λo U=>B 0 o (by unfold kg;rw[h,U];rfl)⟩)
end
theorem qN.yes{U o x}(h:qN U o)(B:x∈U) a p:qN (x::U) o/\Mv o x a p=o:=by
 refine⟨λy=> ?_,?_⟩
 ·rw[zao,<-h y];grind
 unfold Mv;exact zau ((h x).1 B)
theorem qN.no{U o x}(h:qN U o)(B:x∉U) a p:qN (x::U) (o++[(x,a,p)])/\Mv o x a p=o++[(x,a,p)]:=by
 refine⟨λy=> ?_,?_⟩
 ·rw[zao,h y,zcq,zbn];grind
 unfold Mv;exact zat λh1=>B ((h x).2 h1)
section
variable{X:XF}{w0:World}(hX:b7 PR w0 X.cf)
include hX
abbrev qsL:=List aS×aS×List a8×Nat×List (List UInt8)×Int
abbrev qpM:=List a8×List ak×Int×Int
theorem qpN:LN w0 137 8 (ah (aV 137 8) qpH):=LR.par hX (by rfl) .nil .nil (.reg (qsE hX).canon .nil)
 (A:=qsL) (B:=qpM) (λa b=>gtI (mO b.1) a.1 (cI b.2.1) b.2.2.1 (Np a.2.1 b.2.2.2.toNat) (mZ a.2.1 b.2.2.2.toNat) a.2.2.2.2.1 a.2.2.2.2.2 b.2.2.2)
 (λa b=>((0<=a.2.2.2.2.2/\a.2.2.2.2.2<J a.1/\J a.1<=1000000)/\J a.2.2.2.2.1<=100000/\J a.2.2.1+J a.2.2.2.2.1<=1000000/\a.2.2.2.1<=2000000/\(0<=a.2.1.2.1.2.2/\a.2.1.2.1.2.2<=1000000000000))/\(0<=b.2.2.2/\b.2.2.2<=J a.2.2.2.2.1)/\b.1=CR a.2.1 a.2.2.1 (a.2.2.2.2.1.take b.2.2.2.toNat)/\qN b.2.1 b.1/\J b.2.1=a.2.2.2.1+b.2.2.2.toNat)
 (λa b=>J a.2.2.2.2.1-b.2.2.2.toNat)
 (λa x=> ∃U' c',qN U' (CR a.2.1 a.2.2.1 a.2.2.2.2.1)/\J U'=a.2.2.2.1+J a.2.2.2.2.1/\x=(.exit 2,gtH (mO (CR a.2.1 a.2.2.1 a.2.2.2.2.1)) a.1 (cI U') c' a.2.2.2.2.2))
 (by
  rintro⟨l,r,o0,nU,ps,i⟩ ⟨o,U,c,k⟩ ⟨⟨hi,jU,hl,hnU,he⟩,⟨ix,C8⟩,ho,hU,Jx⟩;dsimp only at*
  (rw[<-qpG];delta Zj Zl Zg4 sC VE F6 UU Ji Zgh fO gD fP fQ gA pd D7 Zgk jh Zz ZA p8 Zg6 Zg5 PB Zg0 qh F8 Sp VF Zgj Z8 Z7 Zv Zgi qw I6 I7 Zg1 Zfw Z5 fe Zgl Zgg Zgf Zgd Zs)
  refine b8 (λhk=> ?_) λhk=> ?_
  ·have eb:k.toNat<J ps:=by omega
   have e1:CE (ps.map GT) k.toNat=GT ps[k.toNat]:=aA _ _ _ eb;have uN:=rV (r:=r) (o:=o0) eb;have uo:J o<=J o0+k.toNat:=by grind [Aq]
   have hcn:U.count (mZ r k.toNat)<=J U:=zbu;have bB:0<U.count (mZ r k.toNat)↔mZ r k.toNat∈U:=List.count_pos_iff;have c1:=Cw U (mZ r k.toNat);have c2:=Pp U (mZ r k.toNat) (iE (U.count (mZ r k.toNat):Int));have ha:Np r (k+1).toNat=mZ r k.toNat:=by rw[show(k+1).toNat=k.toNat+1 by omega];rfl
   have hx:mZ r (k+1).toNat=((mZ r k.toNat).1,(mZ r k.toNat).2.1,(mZ r k.toNat).2.2+1):=by rw[show(k+1).toNat=k.toNat+1 by omega];unfold mZ;rw[show r.2.1.2.2+((k.toNat+1:Nat):Int)=r.2.1.2.2+(k.toNat:Int)+1 by omega]
   have hxb:0<=(mZ r k.toNat).2.2/\(mZ r k.toNat).2.2<=1000001000000:=by grind [mZ]
   have zP: ∀o' U' c',o'=Mv o (mZ r k.toNat) (Np r k.toNat) ps[k.toNat]->qN U' o'->J U'=J U+1->roundPost (J ps-k.toNat) (λm s=> ∃b':qpM,s=gtI (mO b'.1) l (cI b'.2.1) b'.2.2.1 (Np r b'.2.2.2.toNat) (mZ r b'.2.2.2.toNat) ps i b'.2.2.2/\(((0<=i/\i<J l/\J l<=1000000)/\J ps<=100000/\J o0+J ps<=1000000/\nU<=2000000/\(0<=r.2.1.2.2/\r.2.1.2.2<=1000000000000))/\(0<=b'.2.2.2/\b'.2.2.2<=J ps)/\b'.1=CR r o0 (ps.take b'.2.2.2.toNat)/\qN b'.2.1 b'.1/\J b'.2.1=nU+b'.2.2.2.toNat)/\m=J ps-b'.2.2.2.toNat) (λx=> ∃U' c',qN U' (CR r o0 ps)/\J U'=nU+J ps/\x=(.exit 2,gtH (mO (CR r o0 ps)) l (cI U') c' i)) (.normal,gtI (mO o') l (cI U') c' (mZ r k.toNat) ((mZ r k.toNat).1,(mZ r k.toNat).2.1,(mZ r k.toNat).2.2+1) ps i (k+1)):=λo' U' c' h1 h2 h3=>by
    refine⟨_,?_,(o',U',c',k+1),?_,⟨⟨hi,jU,hl,hnU,he⟩,⟨by grind,by grind⟩,?_,h2,?_⟩,rfl⟩
    ·grind
    ·show _=gtI (mO o') l (cI U') c' (Np r (k+1).toNat) (mZ r (k+1).toNat) ps i (k+1);rw[ha,hx]
    ·grind
    grind
   generalize mZ r k.toNat=x at*
   generalize Np r k.toNat=a at*
   change aK (cI U (BC [we GE x.1,we GE x.2.1,we GE x.2.2])) (we GE 0)=we GE (U.count x:Int) at c1
   rw[e1,c1];have c3:aK (aW (BC [we GE x.1,we GE x.2.1,we GE x.2.2]) (we GE (AM (we GE (U.count x:Int))+1)) (aW (BC [we GE x.1,we GE x.2.1,we GE x.2.2]) (we GE (U.count x:Int)) (cI U)) (BC [we GE x.1,we GE x.2.1,we GE x.2.2])) (we GE 0)=we GE ((U.count x:Int)+1):=Uv _ _ _ _;rw[c3];have qsM:(0:Int)<=(U.count x:Int)/\(U.count x:Int)<=2100000:=by omega
   have hz:(U.count x:Int)+1=1↔x∉U:=by rw[<-bB];omega
   change (λk'=>bif OF (BC [we GE x.1,we GE x.2.1,we GE x.2.2]) k' then Z (we GE ((U.count x:Int)+1)) else aW (BC [we GE x.1,we GE x.2.1,we GE x.2.2]) (we GE (U.count x:Int)) (cI U) k')=cI (x::U) at c2
   have d1:AM (we GE (U.count x:Int))=(U.count x:Int):=rfl;have d2:AM (we GE ((U.count x:Int)+1))=(U.count x:Int)+1:=rfl;have d3:Q3 (GT ps[k.toNat])=ps[k.toNat]:=rfl;rw[d1,d2,d3,c2];generalize (U.count x:Int)=cn at*
   refine ar ⟨ix,hk⟩ (ar (by rw[zaa];exact eb) (ao (qpv _) (ao (isInt _) (ar (by omega) (ao (isInt _) (zp (λh1=> ?_) λh1=> ?_))))))
   ·obtain⟨h2,h3⟩:=hU.no (hz.1 h1) a ps[k.toNat];refine⟨mO o,l,cI (x::U),_,a,x,ps[k.toNat],ps,i,k,rfl,?_,ar (by omega) (ar (by omega) ?_)⟩
    ·rw[IF];have:=zaQ (λe:a8=>e.2.1==a) o;omega
    grind [qe8]
   have hxU:x∈U:=zbz λh=>h1 (hz.2 h);obtain⟨h2,h3⟩:=hU.yes hxU a ps[k.toNat];grind
  have:k.toNat=J ps:=by omega
  rw[this,zan] at ho;subst ho;exact⟨U,c,hU,by omega,rfl⟩)
 (by
  rintro s E ⟨l,r,o,U,c,ps,i,rfl,⟨h1,h2,h3,h4,h5,h6,h7⟩,hU,hp⟩;refine⟨(l,r,o,J U,ps,i),(o,U,c,0),?_,⟨⟨⟨h1,h2,h3⟩,h4,h5,h6,h7⟩,⟨zbW 0,by simp⟩,by rfl,hU,by simp⟩,?_⟩
  ·simp[mZ,gtI,mO,Np]
  grind)
def qpO:S->K (PX×S):=λs E=> ∃l U c,s=gtH [] l (cI U) c 0/\dm l/\qN U []/\J U=1/\ ∀m,m=mO (ku l)->E (.exit 0,⟨77,[(3,.wV 0 0)],[(0,gR m)]⟩)
theorem qpP:LN w0 137 3 (ah (aV 137 3) qpO):=LR.par hX (by rfl) .nil (.cons (qfz hX) .nil) (.loop (by decide) (qpN hX) .nil)
 (A:=List aS) (B:=List ak×Int×Int) (λl b=>gtH (mO (ku (l.take b.2.2.toNat))) l (cI b.1) b.2.1 b.2.2)
 (λl b=>dm l/\(0<=b.2.2/\b.2.2<=J l)/\qN b.1 (ku (l.take b.2.2.toNat))/\J b.1=1+UM (l.take b.2.2.toNat))
 (λl b=>J l-b.2.2.toNat)
 (λl x=>x=(.exit 0,⟨77,[(3,.wV 0 0)],[(0,gR (mO (ku l)))]⟩))
 (by
  rintro l ⟨U,c,i⟩ ⟨h,⟨h0,dE⟩,hU,Jx⟩;dsimp only at*
  (rw[<-qpI];delta jh Zgg VF Zgp Zz ZA sC VE F6 UU Sp Z8 Z7 Zv dK kQ p8 ZfM ZfL Zgo Zgn Ji Zgh Zs Du ZfO qw I6 I7 Z5 Zg6 Zg5 Zj Zl Zg4 PB Zg0 qh F8 Zgm jO Zn lH ZfF ZfC ZfD)
  refine b8 (λhi=> ?_) λhi=> ?_
  ·have bB:i.toNat<J l:=by omega
   have e1:CE (l.map qo) i.toNat=qo l[i.toNat]:=aA _ _ _ bB;have uN:=rW bB;have h1:=qm (l:=l) i.toNat (by omega);have h2:=xX bB;have h3:=Mx l (i.toNat+1);have h4:=h.2.1;have hl1:=h.1;have h5:=h.2.2 _ (zay bB);have h6:=wC l[i.toNat].2.2;have jN:0<=i/\i<(J (l.map qo):Int):=by grind
   rw[e1];refine ar jN (ao (UT _) ⟨l[i.toNat].2.2,rfl,rfl,by omega,λe o ho=>⟨l,l[i.toNat],ku (l.take i.toNat),U,c,o,i,rfl,⟨h0,hi,hl1,by rw[ho];omega,by rw[ho];omega,by omega,h5.2⟩,hU,λo' U' c' h7 h8 h9=>ar (by omega) ⟨_,?_,(U',c',i+1),?_,⟨h,⟨by grind,by grind⟩,?_,?_⟩,rfl⟩⟩⟩)
   ·grind
   ·have:o'=ku (l.take (i.toNat+1)):=by rw[uN,h7,ho];rfl
    show _=gtH (mO (ku (l.take (i+1).toNat))) l (cI U') c' (i+1);rw[show(i+1).toNat=i.toNat+1 by omega,<-this];rfl
   ·have:o'=ku (l.take (i.toNat+1)):=by rw[uN,h7,ho];rfl
    grind
   grind
  have:i.toNat=J l:=by omega
  rw[this,zan];exact rfl)
 (by rintro s E ⟨l,U,c,rfl,h,hU,Jx,hp⟩;refine⟨l,(U,c,0),rfl,⟨h,⟨zbW 0,by simp⟩,by simpa [ku] using hU,by simpa [UM] using Jx⟩,?_⟩;grind)
end
theorem qbz{F1 w x}(h:qM w x)(hF:F1 x.2.2.1){F v}(hv:bf F w v (kJ x)):bf F1 w v (.sl 4 (x.2.1.map cx)):=by
 obtain⟨_,cs,h2,h3,h4,h5,h6⟩:=h;unfold kJ at hv;generalize x.2.2.1=b at*
 generalize x.2.2.2=cap at*
 generalize hn:J x.2.1=n at*
 cases hv;have U:J (x.2.1.map cx)=n:=by rw[zaa,hn]
 have:=bf.Qe (F:=F1) (w:=w) b 0 4 cap (x.2.1.map cx) (λi=>cs.getD i undef) (by omega) hF (λy B=>by obtain⟨i,hi⟩:=zaD B;exact(h6 i y hi).1)
  (λy B=>by obtain⟨i,hi⟩:=zaD B;exact(h6 i y hi).2.1) (λi hi=>by
   have:i<cs.size:=by omega
   rw[zaE,cell_of_row w b i cs 180 (0,0) h2];simp_all) (λi j y c B hc=>(wz h6 i y B).2.2 j c hc)
 rwa [U] at this
theorem ja.rows{F F1 w al n}{es ck}(h:ja PR F w 49 (aQ al) n es ck)(hr: ∀x∈al,qM w x)(hF: ∀c∈cG al,F1 c):ja PR F1 w 49 (nE (al.map λx=>(x.1,x.2.1))) n es ck:=by
 obtain⟨ks,h1,h2,h3,h4,h5,h6,h7⟩:=h;have Qs: ∀k,(al.map λx=>(x.1,x.2.1)).find? (λx=>OF (aF x.1) k)=(al.find? λx=>OF (aF x.1) k).map λx=>(x.1,x.2.1):=λk=>by rw[zcU];rfl
 have hval: ∀k v,aQ al k=Z v-> ∃y∈al,v=kJ y/\nE (al.map λx=>(x.1,x.2.1)) k=Z (.sl 4 (y.2.1.map cx)):=λk v B=>by unfold aQ at B;obtain⟨y,U,rfl⟩:=zap.1 B;refine⟨y,zb3 U,rfl,?_⟩;simp_all [nE]
 refine⟨ks.map λp=>(p.1,aK (nE (al.map λx=>(x.1,x.2.1)) p.1) .cd),by rw[zaa,h1],h2,λi p e hp he=> ?_,?_,λk v=> ?_,h6,h7⟩
 ·rw[zaw] at hp;obtain⟨q,hq,rfl⟩:=zap.1 hp;obtain⟨a,b,c⟩:=h3 i q e hq he;refine⟨a,b,?_⟩;obtain⟨y,U,e1,e2⟩:=hval q.1 q.2 ((h5 q.1 q.2).2 (zas hq));rw[e1] at c;show bf F1 w e.val (aK (nE _ q.1) .cd);rw[e2];exact qbz (hr y U) (hF _ (zal.2 ⟨y,U,rfl⟩)) c
 ·rw[zbr];exact h4
 rw[zal];refine⟨λB=> ?_,?_⟩
 ·unfold nE at B;rw[Qs] at B;cases U:al.find? (λx=>OF (aF x.1) k) with
  |none=>rw[U] at B;cases B
  |some y=>
   have hvk:aQ al k=Z (kJ y):=by grind [aQ]
   refine⟨(k,kJ y),(h5 k _).1 hvk,?_⟩;show(k,aK (nE _ k) .cd)=(k,v)
   unfold nE;rw[Qs,U];rw[U] at B;exact congrArg (Prod.mk k) (zaT B)
 rintro⟨q,hq,e⟩;cases e;obtain⟨y,_,_,e2⟩:=hval q.1 q.2 ((h5 q.1 q.2).2 hq);rw[e2];rfl
theorem qfA{F w G R R'}{B v n k e}(hv:bR F w G R B v (.mp n k))(h:lk R n=Z e)(h':lk R' n=Z e):bR F w G R' B v (.mp n k):=by
 cases hv with
 |mp _ _ _ k1 hr=>obtain⟨e0,U,h1,h2⟩:=hr;rw[h] at U;cases U;exact .mp _ _ _ k1 ⟨_,h',h1,h2⟩
theorem qbA{F w G R R'}{B v n k o e}(hv:bR F w G R B v (.ref n k o))(h:lk R n=Z e)(h':lk R' n=Z e):bR F w G R' B v (.ref n k o):=by
 cases hv with
 |ref _ _ _ _ hr k1=>obtain⟨e0,U,h1,h2⟩:=hr;rw[h] at U;cases U;exact .ref _ _ _ _ ⟨_,h',h1,h2⟩ k1
section
variable{X:XF}{w0:World}(hX:b7 PR w0 X.cf)
include hX
theorem PS{H B f id}(hH:HD X H)(U:Jb w0 B)(hc:cC (qv f) (nP PR f id)=O)(AY:(aH (nP PR f id)).isEmpty=O){val lo mk s}{E}(hp:qki H B [] f id s E):TW PR ⟨val,w0,lo,mk⟩ (nP PR f id) s E:=
 fE (kp:=yP X) (T:=⟨val,w0,lo,mk⟩) U.get (nR hH) hX sK (nP PR f id) hc (λd hd=>by rw[zbJ.1 AY] at hd;cases hd) (λd hd h hh=>by cases hh) s E hp
structure AtV(al:List bK):Prop where
 h: ∀(i:Nat) y,al[i]?=Z y->aQ al (aF y.1)=Z (kJ y)
def g17:S->K (PX×S):=λs E=> ∃m,s=⟨77,[(3,.wV 0 0)],[(0,gR m)]⟩/\ ∀al:List bK,al.map (λx=>(x.1,x.2.1))=m->(al.map (·.1)).Nodup->AtV al->E (.normal,h18 al al (aQ al) Y)
theorem qsN:GN w0 137 17 g17:=by
 rintro val lo mk s E ⟨m,rfl,hp⟩;refine TW.KP λF G w a hs=> ?_;obtain⟨b,al,G1,e3,B,h1,hG1,cU,A3,cD⟩:=qg2 (nb:=0) (vb:=0) (m:=m) hs rfl;have h2:=h1.pY (t:=3) (Sf (hs.tm 3 _ rfl) rfl e3 (v1:=1) (o1:=mapM al) rfl hG1);obtain⟨h3,qpQ⟩:=qoK (n:=1) (v:=0) (al:=al) h2 (λe U=>by cases U) (zaU.1 B.nd).2 B.f (λc hc=>⟨(cD c hc).2.2,λm e _ U hb=>(cD c hc).1 ⟨m,e,U,hb⟩⟩);have hE:Ext (Own G [(0,gR m)]) (Own (Pi.gj G1 1 (UO (cG al))) [(0,⟨1,Y,mapM al⟩),(1,qa8 al)]) F F w w:=rX λc hc=>by
  rcases qpQ c hc with h | ⟨m',e,_,U,hb⟩
  ·grind
  exact A3 c ⟨m',e,U,hb⟩
 refine⟨F,_,⟨77,[(3,.mp 0 1)],[(0,⟨1,Y,mapM al⟩),(1,qa8 al)]⟩,λx=>x=(.normal,⟨77,[(3,.mp 0 1),(68,.mp 0 1),(69,.ref 1069 0 0)],IG al al (aQ al) Y⟩),h3,hE,PS hX .nil .nil (by rfl) (by rfl) (by exact rfl),λe s2 F2 G2 w2 a2 BB k1 k2=> ?_⟩;cases BB;exact⟨F2,G2,_,k1.F9 (λt=>gE t [3,69]),hE.trans k2,hp al B.a B.kd ⟨λi y=>B.at⟩⟩
theorem qsO:GN w0 137 20 g20:=by
 rintro val lo mk s E ⟨dz,al,left,cur,x,p70,p71,p72,rfl,i,B,⟨rfl,hi,mr,hlen⟩,hp⟩;intro r oi F G w ac Q' hs hK;obtain⟨eG,hg,dO⟩:=MB (n:=1) hs rfl;have xi:=zas hi;have jm:B.2.2.1∈cG al:=zal.2 ⟨B,xi,rfl⟩;have hrm:=hg.f B xi;obtain⟨z0,cs,z1,z2,z3,z4,z5⟩:=hrm;obtain⟨h1,_⟩:=(hs.F9 (λt=>gE t [3,14,69])).KQ (n:=1) (e1:=⟨1,Y,dY B.2.1⟩) (g1:=nf B) (λe U=>by cases U;exact .inl (Nat.zero_lt_one)) (λc hc=>by
   have hc:c=B.2.2.1:=(zaT hc.2).symm;subst hc;exact(dO _ jm).2) (.inr ⟨B.2.2.1,B.2.2.2,cs,4,by rw[aM,zaa];rfl,z1,qg1,by decide,by rw[zaa];exact z2,z3,z4,(λh=>by cases h),wz z5⟩) (λi hi=>by cases hi) (λc hc d=>by
   have hc:c=B.2.2.1:=(zaT hc.2).symm;subst hc;rw[z1];intro e;cases e)
 have h2:=h1.pY (t:=14) (p:= .sl 1 1 (J B.2.1)) (Sg (nn:=1) (h1.tm 14 _ rfl) rfl (aM _ _ _));have h3:=h2.tagged (n:=1) (λn e U=>by
  rcases fS U with⟨_,rfl⟩|U
  ·rfl
  rcases fS U with⟨_,rfl⟩|U
  ·rfl
  rcases gY U with⟨_,rfl⟩
  rfl) rfl
 have hG1:Pi.gj G 1 (nf B) 1=nf B:=aM _ _ _;rw[hG1] at h3;have h4:ax PR ⟨λ_=>nf B,w0,lo,mk⟩ F (Pi.gj G 1 (nf B)) w ac ⟨77,[(3,.mp 0 1),(14,.sl 1 1 (J B.2.1)),(69,.ref 1069 0 0)],[(0,⟨1,Y,.map 49 (aQ dz) (J dz) O⟩),(1,⟨1,Z 0,dY B.2.1⟩),(1069,⟨0,Y,.iter 49 177 left cur⟩)]⟩:=h3;have hO1: ∀c,Own (Pi.gj G 1 (nf B)) [(0,⟨1,Y,.map 49 (aQ dz) (J dz) O⟩),(1,⟨1,Z 0,dY B.2.1⟩),(1069,⟨0,Y,.iter 49 177 left cur⟩)] c->c=B.2.2.1\/ ∃n e,n≠1/\lk (IG dz al left cur) n=Z e/\a7 (G n) e.obj c:=λc ⟨n,e,U,hb⟩=>by
  rcases fS U with⟨rfl,rfl⟩|U
  ·exact .inr ⟨0,_,by decide,rfl,by rwa [bW _ (by decide)] at hb⟩
  rcases fS U with⟨rfl,rfl⟩|U
  ·rw[aM] at hb;exact .inl (zaT hb.2).symm
  rcases gY U with⟨rfl,rfl⟩
  exact .inr ⟨1069,_,by decide,rfl,by rwa [bW _ (by decide)] at hb⟩
 have hE0:Ext (Own G (IG dz al left cur)) (λc=>Own (Pi.gj G 1 (nf B)) [(0,⟨1,Y,.map 49 (aQ dz) (J dz) O⟩),(1,⟨1,Z 0,dY B.2.1⟩),(1069,⟨0,Y,.iter 49 177 left cur⟩)] c\/c∈cG al) F F w w:=rX λc hc=>by
  rcases hc with hc |hc
  ·rcases hO1 c hc with rfl | ⟨n,e,_,U,hb⟩
   ·exact(dO _ jm).1
   exact⟨n,e,U,hb⟩
  exact(dO c hc).1
 refine PS (val:=λ_=>nf B) (lo:=lo) (mk:=mk) hX (.cons qfa .nil) .nil (by kernel_rfl) (by kernel_rfl) (E:=λx=>x=(.normal,⟨77,[(3,.mp 0 1),(14,.sl 1 1 (J B.2.1)),(69,.ref 1069 0 0),(74,.sl 1 1 (J B.2.1)),(75,.cy [])],[(0,⟨1,Y,.map 49 (aQ dz) (J dz) O⟩),(1,⟨1,Z 0,dY (dL VB B.2.1)⟩),(1069,⟨0,Y,.iter 49 177 left cur⟩)]⟩)) (by
  (rw[<-qsv];delta ZdI ZdE Z3i VC kQ MC tF ZdO qU)
  refine⟨B.2.1.map λe=>(e.1,e.2.2),?_,?_,?_,λl' h1 h2=> ?_⟩
  ·rw[zaa]
  ·rw[ME]
  ·rw[zaa];exact hlen
  have:=qba mr h1 h2;subst this;rw[ME];rfl) oi F _ w ac Q' h4 λe s' a' w' BB ⟨F',G',k1,k2⟩=> ?_
 cases BB;have hGe:G' 1=nf B:=((k1.tag 1 _ 0 rfl rfl rfl).eq λl h=>by cases h)
 have qhh:J (dL VB B.2.1)=J B.2.1:=FL _ _;have hE1:=hE0.trans (k2.wide (· ∈cG al));have cU:dL VB B.2.1≠[]:=λh=>by rw[h] at qhh;exact z0 (zds.1 qhh.symm)
 obtain⟨tE,cap,ou,BB,Vg⟩:=qg3 (nn:=1) cU k1 rfl;rw[hGe] at ou BB;have qbB:qM w' (wT B):=by
  have:=Vg B.1;unfold nf at ou;injection ou with q1 q2 q3
  injection q1 with q1
  injection q1 with q1
  rw[<-q1,<-q3] at this;exact this
 have haw: ∀y∈al,y.2.2.1≠B.2.2.1-> ¬Own G' _ y.2.2.1/\ ¬F' y.2.2.1/\qM w' y:=λy hy qmP=>by
  have hm:y.2.2.1∈cG al:=zal.2 ⟨y,hy,rfl⟩;obtain⟨o1,o2,o3⟩:=dO _ hm;obtain⟨c1,c2,c3,c4⟩:=k2.PO (hg.f y hy).lt (λho=>by
   rcases hO1 _ ho with h | ⟨n,e,hn,U,hb⟩
   ·exact qmP h
   exact o3 n e (za0 hn) U hb) o2
  exact⟨c1,c2,(hg.f y hy).keep c3⟩
 have dE:=(zab.1 hi).1;have hblk:cG (al.set i (wT B))=cG al:=by
  rw[cG,zbA];refine zbX λj=> ?_;by_cases hj:i=j
  ·subst hj;rw[zbc (by simpa using dE),zaw,hi];rfl
  rw[zbb hj]
 have Sr: ∀y∈al.set i (wT B),y=wT B\/(y∈al/\y.2.2.1≠B.2.2.1):=λy hy=>by
  obtain⟨n,hn⟩:=zaD hy;by_cases e:i=n
  ·subst e;rw[zbc dE] at hn;exact .inl (zaT hn).symm
  rw[zbb e] at hn;refine .inr ⟨zas hn,λh=>e ?_⟩;have AY:=(zab.1 hn).1;have h1:(cG al)[i]?=(cG al)[n]?:=by rw[cG,zaw,zaw,hi,hn];exact congrArg Z h.symm
  exact(zc8 (by simpa using dE) hg.nd).1 h1
 obtain⟨m1,m2⟩:=(k1.F9 (λt=>gE t [3,69])).KQ (n:=1) (e1:=⟨2,Y,.deep (.agg []) (GR (al.set i (wT B)))⟩) (g1:=UO (cG (al.set i (wT B)))) (λe U=>by cases U;exact .inl (show 1<2 by decide)) (λc hc=>by
   obtain⟨y,hy,rfl⟩:=zal.1 (PG.1 hc);rcases Sr y hy with rfl | ⟨h1,h2⟩
   ·exact⟨k1.jb 1 _ _ rfl (by rw[hGe];exact⟨rfl,rfl⟩),λn e hn U hb=>hn (k1.own 1 n _ _ B.2.2.1 rfl U (by rw[hGe];exact⟨rfl,rfl⟩) hb)⟩
   ·obtain⟨o1,o2,_⟩:=haw y h1 h2;exact⟨o2,λn e _ U hb=>o1 ⟨n,e,U,hb⟩⟩) ⟨.bool O,cG (al.set i (wT B)),aM _ _ _,λc hc=>by
   obtain⟨y,hy,rfl⟩:=zal.1 hc;rcases Sr y hy with rfl | ⟨h1,h2⟩
   ·exact qbB.lt
   ·exact(haw y h1 h2).2.2.lt,λw2 hw=>⟨rfl,by rw[hblk];exact hg.nd,λy hy=>by
   have hk:=hw y.2.2.1 (.inl (zal.2 ⟨y,hy,rfl⟩));rcases Sr y hy with rfl | ⟨h1,h2⟩
   ·exact qbB.keep hk
   ·exact(haw y h1 h2).2.2.keep hk⟩⟩ (λi hi=>by cases hi) (λc hc d=>by
   obtain⟨y,hy,rfl⟩:=zal.1 (PG.1 hc);have:qM w' y:=by
    rcases Sr y hy with rfl | ⟨h1,h2⟩
    ·exact qbB
    exact(haw y h1 h2).2.2
   obtain⟨_,cs,z,_⟩:=this;rw[z];intro e;cases e)
 have m3:ax PR ⟨λ_=>nf B,w0,lo,mk⟩ F' (Pi.gj G' 1 (UO (cG (al.set i (wT B))))) w' a' ⟨77,[(3,.mp 0 1),(69,.ref 1069 0 0)],[(0,⟨1,Y,.map 49 (aQ dz) (J dz) O⟩),(1,⟨2,Y,.deep (.agg []) (GR (al.set i (wT B)))⟩),(1069,⟨0,Y,.iter 49 177 left cur⟩)]⟩:=m1;have m4:=m3.qoN (val':=val) (λn e U=>by
  rcases fS U with⟨_,rfl⟩|U
  ·rfl
  rcases fS U with⟨_,rfl⟩|U
  ·rfl
  rcases gY U with⟨_,rfl⟩
  rfl)
 have jF: ∀n e,lk (IG dz (al.set i (wT B)) left cur) n=Z e-> ∃e',lk [(0,⟨1,Y,.map 49 (aQ dz) (J dz) O⟩),(1,⟨2,Y,.deep (.agg []) (GR (al.set i (wT B)))⟩),(1069,(⟨0,Y,.iter 49 177 left cur⟩:En))] n=Z e'/\e'.obj=e.obj/\e.tag=Y/\(n=1\/e'=e):=λn e U=>by
  rcases fS U with⟨rfl,rfl⟩|U
  ·exact⟨_,rfl,rfl,rfl,.inr rfl⟩
  rcases fS U with⟨rfl,rfl⟩|U
  ·exact⟨_,rfl,rfl,rfl,.inl rfl⟩
  rcases gY U with⟨rfl,rfl⟩
  exact⟨_,rfl,rfl,rfl,.inr rfl⟩
 have hOw: ∀c,Own (Pi.gj G' 1 (UO (cG (al.set i (wT B))))) (IG dz (al.set i (wT B)) left cur) c->Own (Pi.gj G' 1 (UO (cG (al.set i (wT B))))) [(0,⟨1,Y,.map 49 (aQ dz) (J dz) O⟩),(1,⟨2,Y,.deep (.agg []) (GR (al.set i (wT B)))⟩),(1069,⟨0,Y,.iter 49 177 left cur⟩)] c:=λc ⟨n,e,U,hb⟩=>by obtain⟨e',h1,h2,_⟩:=jF n e U;exact⟨n,e',h1,by rw[h2];exact hb⟩
 have m5:=m4.KP (s1:=h18 dz (al.set i (wT B)) left cur) (F1:=F') (G1:=Pi.gj G' 1 (UO (cG (al.set i (wT B))))) rfl (rX hOw) m4.gL (λt p ht=>by
   rcases fS ht with⟨rfl,rfl⟩|ht
   ·exact qfA (m4.tm 3 _ rfl) rfl rfl
   ·rcases gY ht with⟨rfl,rfl⟩
    exact qbA (m4.tm 69 _ rfl) rfl rfl) (λn e U=>by
   obtain⟨e',h1,h2,_⟩:=jF n e U;have:=m4.rg n e' h1;rw[h2] at this;rcases fS U with⟨rfl,rfl⟩|U
   ·exact this
   rcases fS U with⟨rfl,rfl⟩|U
   ·exact this
   rcases gY U with⟨rfl,rfl⟩
   exact this) (λn m e e' b U cP hb db=>by
   obtain⟨x,h1,h2,_⟩:=jF n e U;obtain⟨x',Wl,h2',_⟩:=jF m e' cP;exact m4.own n m x x' b h1 Wl (by rw[h2];exact hb) (by rw[h2'];exact db)) (λn e b U hb=>by
   obtain⟨x,h1,h2,_⟩:=jF n e U;exact m4.jb n x b h1 (by rw[h2];exact hb)) (λn e i U hi _=>by
   obtain⟨_,_,_,h3,_⟩:=jF n e U;rw[h3] at hi;cases hi)
 refine hK .normal _ a' w' hp ⟨F',_,m5,hE1.le (λ_ h=>h) λc hc=> ?_⟩;obtain⟨n,e,U,hb⟩:=hc;rcases fS U with⟨rfl,rfl⟩|U
 ·rw[bW _ (by decide)] at hb;exact .inl ⟨0,_,rfl,hb⟩
 rcases fS U with⟨rfl,rfl⟩|U
 ·rw[aM] at hb;have:=PG.1 hb;rw[hblk] at this;exact .inr this
 rcases gY U with⟨rfl,rfl⟩
 rw[bW _ (by decide)] at hb;exact .inl ⟨1069,_,rfl,hb⟩
end
theorem qbC{F w G R R'}{U v n k e e'}(hv:bR F w G R U v (.mp n k))(h:lk R n=Z e)(h':lk R' n=Z e')(B:e'.aU=e.aU/\(e'.obj.live=O->e.obj.live=O)):bR F w G R' U v (.mp n k):=by
 cases hv with
 |mp _ _ _ k1 hr=>obtain⟨e0,he,h1,h2⟩:=hr;rw[h] at he;cases he;exact .mp _ _ _ k1 ⟨_,h',by omega,λh3 h4=>h2 (by omega) (B.2 h4)⟩
abbrev x18(B al:List bK)(left:D->Option D)(h:Option (D×D)):S:=⟨77,[(3,.mp 0 1),(69,.ref 1069 0 0),(70,.cy [.d (.bool C)]),(71,.d (.bool C))],IG B al left h⟩
def PT(al:List bK):= ∀y∈al,(y.2.1.map (·.1)).Nodup/\J y.2.1<=1000000
def g18:S->K (PX×S):=λs E=> ∃h,s=h18 h h (aQ h) Y/\(h.map (·.1)).Nodup/\AtV h/\PT h/\ ∀al left B,al=h.map wT->E (.exit 4,x18 h al left B)
section
variable{X:XF}{w0:World}(hX:b7 PR w0 X.cf)
include hX
theorem qfB{val lo mk s}{E}(B:qoL [] [] [(1000020,g20)] 137 18 s E):TW PR ⟨val,w0,lo,mk⟩ (bA PR 137 18) s E:=by
 refine fE (kp:=yP X) (T:=⟨val,w0,lo,mk⟩) (Jb.get .nil) (nR .nil) hX sK (dc:=qv 137) (bA PR 137 18) (by kernel_rfl) (λd hd h U=> ?_) (λd hd h U s E B=> ?_) _ _ B
 ·have:aH (bA PR 137 18)=[]:=by kernel_rfl
  rw[this] at hd;cases hd
 have hg:=(VA.qkf (.reg (qsO hX) .nil): ∀id g,lk [(1000020,g20)] (1000000+id)=Z g->GN w0 137 id g) _ _ U val lo mk s E B;rwa [CP (by kernel_rfl) hd] at hg
theorem qsP:LN w0 137 18 g18:=by
 rintro val lo mk s E ⟨U,rfl,hk,hv,hr,hp⟩;refine TW.mono (TW.loop (keep:=Y) (I:=λn s=> ∃al left B,s=h18 U al left B/\rY U left al/\n=qbb U left) (O:=λx=> ∃al left B,al=U.map wT/\x=(.exit 4,x18 U al left B)) (λn s hs=> ?_) (s0:=h18 U U (aQ U) Y) rfl ⟨U,aQ U,Y,rfl,.start hv.h,rfl⟩) ?_
 ·obtain⟨al,left,B,rfl,hL,rfl⟩:=hs;refine qfB hX ?_
  ·(rw[<-qsu];delta ZdI jh ZdF ZdE Z2 Nb VC MC ZdK Q9 k7 T1 T2 X7 X8 xM ZT ZdJ ZdH)
   refine⟨λk x hx=> ?_,λh0=>⟨_,rfl,al,left,B,hL.done h0,rfl⟩⟩;obtain⟨i,y,hi,hia,rfl,rfl,hS,aZ⟩:=hL.step hk hx;refine ao (jG y.1) ⟨rfl,λes h=>(by cases h),λh=>(by cases h),λb n c h=> ?_⟩;cases h;obtain⟨h1,h2⟩:=hr y (zas hi);exact⟨U,al,_,_,kJ y,_,_,_,rfl,i,y,⟨rfl,hia,h1,h2⟩,_,rfl,_,aZ,_,_,_,rfl,hS,rfl⟩
 rintro x ⟨al,left,B,h1,rfl⟩;exact hp al left B h1
def g21:S->K (PX×S):=λs E=> ∃h al left B,s=x18 h al left B/\(aQ h=aQ al/\J h=J al)/\ ∀m:MM,m=al.map (λx=>(x.1,x.2.1))->E (.normal,⟨77,[(2,.mp 0 1),(3,.mp 0 1),(76,.mp 0 1)],[(0,⟨1,Y,.map 49 (nE m) (J m) O⟩)]⟩)
theorem qsQ:GN w0 137 21 g21:=by
 rintro val lo mk s E ⟨dz,al,left,cur,rfl,⟨hv,hlen⟩,hp⟩;refine TW.KP λF G w a hs=> ?_;obtain⟨eG,hg,dO⟩:=MB (n:=1) hs rfl;obtain⟨h1,hO1⟩:=qg4 (hs.F9 (λt=>gE t [3])) (n3:=1) rfl;have h2:=h1.qlL (F1:=λc=>F c\/c∈cG al) (λ_ h=> .inl h) (λc B=>B.imp id λB=>⟨(by
   obtain⟨x,hx,rfl⟩:=zal.1 B;exact(hg.f x hx).lt),λho=>by
   obtain⟨n,e,hn,U,hb⟩:=hO1 c ho;exact(dO c B).2.2 n e hn U hb⟩) (λc B hnc d=>by
   rcases B with B |B
   ·exact absurd B hnc
   obtain⟨x,hx,rfl⟩:=zal.1 B;obtain⟨_,cs,z,_⟩:=hg.f x hx;rw[z];intro e;cases e)
 obtain⟨b,es,ck,q1,q2,q3,q4⟩:=hs.rg 0 _ rfl;have Vc:(J (al.map λx=>(x.1,x.2.1)):Int)=J dz:=by rw[zaa,hlen]
 have cD: ∀(G1:Nat->W) c,¬Own G1 [(0,⟨1,Y,.map 49 (nE (al.map λx=>(x.1,x.2.1))) (J (al.map λx=>(x.1,x.2.1)):Int) O⟩)] c:=λG1 c ⟨n,e,U,hb⟩=>by
  rcases gY U with⟨rfl,rfl⟩
  cases hb.1
 have h3:=h2.KP (s1:=⟨77,[(3,.mp 0 1)],[(0,⟨1,Y,.map 49 (nE (al.map λx=>(x.1,x.2.1))) (J (al.map λx=>(x.1,x.2.1)):Int) O⟩)]⟩) (F1:=λc=>F c\/c∈cG al) (G1:=Pi.gj G 1 undef) rfl (rX λc B=>(cD _ c B).elim) h2.gL (λt p ht=>by
   rcases gY ht with⟨rfl,rfl⟩
   have:=h2.tm 3 _ rfl;exact qbC this rfl rfl ⟨rfl,λ_=>rfl⟩) (λn e U=>by
   rcases gY U with⟨rfl,rfl⟩
   refine⟨b,es,ck,by rw[bW _ (by decide)];exact q1,q2,?_,λ_=> .inl (q4 rfl)⟩;rw[Vc];rw[hv] at q3;exact q3.rows hg.f λc B=> .inr B) (λn m e e' c U cP hb _=>(cD _ c ⟨n,e,U,hb⟩).elim) (λn e c U hb=>(cD _ c ⟨n,e,U,hb⟩).elim) (λn e i U hi _=>by
   rcases gY U with⟨rfl,rfl⟩
   cases hi)
 have hE:Ext (Own G (IG dz al left cur)) (Own (Pi.gj G 1 undef) [(0,⟨1,Y,.map 49 (nE (al.map λx=>(x.1,x.2.1))) (J (al.map λx=>(x.1,x.2.1)):Int) O⟩)]) F (λc=>F c\/c∈cG al) w w:=
  ⟨λ_ h=> .inl h,λc B=>B.imp id λB=> .inl (dO c B).1,λc B=>(cD _ c B).elim,λ_ _ _=>rfl,zag _,rfl,rfl,rfl⟩
 refine⟨_,_,_,λx=>x=(.normal,⟨77,[(2,.mp 0 1),(3,.mp 0 1),(76,.mp 0 1)],[(0,⟨1,Y,.map 49 (nE (al.map λx=>(x.1,x.2.1))) (J (al.map λx=>(x.1,x.2.1)):Int) O⟩)]⟩),h3,hE,PS hX .nil .nil (by kernel_rfl) (by kernel_rfl) (by(rw[<-qsw];delta MC);exact rfl),λe s2 F2 G2 w2 a2 BB k1 k2=> ?_⟩;cases BB;exact⟨F2,G2,_,k1,hE.trans k2,hp _ rfl⟩
end
def qhi:bc:=λps R E=> ∃l,ps=[jI l]/\R=[]/\dm l/\ ∀m,m=lu (mO (ku l))->E (.mp 0 0,[(0,⟨0,Y,.map 49 (nE m) (J m) O⟩)])
def Zgv(m:MM):=(0,AC 0 Y (If 49 (λk=>mm (λx=>IR 4 (aa cx (bl x))) (List.find? (λx=>OF (aF (ba x)) k) m)) (↑(J m):Int) O))
def Zgu al:=aa (λ(x:bK)=>(ba x,ba (bl x))) al
def Zgt:=(0,AC 0 Y (Obj.deep jh (GD [])))
def Zgs h:=AS 77 [sT h,(2,Do D.qy)] []
theorem qkG l E:(∃av,Zgs l=Zgs av/\ ∃(l:List aS) (U:List ak) (c:Int),AS 77 (VF::Sp::UU av::(20,Do (we GE (ZfC av)))::Z3P) [Zgt,(1,AC 0 Y (If 49 (λd=>match d with |BC [we GE a,we GE b,we GE c]=>if th (a,b,c) [aJ]=0 then Y else Z (iE (↑(th (a,b,c) [aJ]):Int))|_=>Y) (1:Int) C))]=AS 77 (VF::Sp::UU l::VE l::Z3P) [Zgt,(1,AC 0 Y (If 49 (λd=>match d with |BC [we GE a,we GE b,we GE c]=>if th (a,b,c) U=0 then Y else Z (iE (↑(th (a,b,c) U):Int))|_=>Y) c C))]/\dm l/\qN U []/\dK U=1/\ ∀m,m=mO (ku l)-> ∃ct,Zgp m=Zgp ct/\ ∀al,Zgu al=ct->List.Nodup (aa (λ(x:bK)=>ba x) al)->AtV al-> ∃h,AS 77 [MC,VC] (ZdG al)=AS 77 [MC,VC] (ZdG h)/\List.Nodup (aa (λ(x:bK)=>ba x) h)/\AtV h/\PT h/\ ∀al left cur,al=aa wT h-> ∃FX B xZ qpR,ZdK h al left cur=ZdK FX B xZ qpR/\(((λk=>mm kJ (List.find? (λx=>OF (aF (ba x)) k) FX))=λk=>mm kJ (List.find? (λx=>OF (aF (ba x)) k) B))/\J FX=J B)/\ ∀(m:MM),m=Zgu B->E (CC,[Zgv m]))=(PE [] [] [(1000001,g1W),(3,ah (aV 137 3) qpO),(1000017,g17),(18,g18),(1000021,g21)] 137 [jI l] []) E:=by kernel_rfl
theorem UW al:aQ al=aQ (al.map wT):=by
 funext k;unfold aQ;rw[zcU];have:(λx:bK=>OF (aF x.1) k)∘wT=λx=>OF (aF x.1) k:=rfl;rw[this];cases al.find? (λx=>OF (aF x.1) k) with
 |none=>rfl
 |some y=>show Z (kJ y)=Z (kJ (wT y));unfold kJ wT;simp only[FL]
theorem UX(al:List bK):(al.map wT).map (λx=>(x.1,x.2.1))=lu (al.map λx=>(x.1,x.2.1)):=by unfold lu;rw[zbr,zbr];rfl
theorem qfC{l}(hc:dm l){al:List bK}(B:al.map (λx=>(x.1,x.2.1))=mO (ku l))(hk:(al.map (·.1)).Nodup):PT al:=λy hy=>by
 have h1:(y.1,y.2.1)∈mO (ku l):=by rw[<-B];exact zal.2 ⟨y,hy,rfl⟩
 have h2:((mO (ku l)).map (·.1)).Nodup:=by rw[<-B,zbr];exact hk
 have h3:getM (mO (ku l)) y.1=y.2.1:=by
  unfold getM;cases h:(mO (ku l)).find? (λx=>x.1==y.1) with
  |none=>exact absurd (zcx.1 h _ h1) (by simp)
  |some z=>
   have hz:z.1=y.1:=by simpa using zdk h
   have:=kG h2 z (zb3 h) (y.1,y.2.1) h1 hz;rw[this]
 rw[IF] at h3;have U:=CS (l:=l) (J l) (zag _);have hL:=qm (l:=l) (J l) (zag _);rw[zan] at U hL;rw[<-h3];have h4:=hc.2.1;exact⟨U.1.sublist (zb6.map _),zaJ (zaQ _ _) (by omega)⟩
section
variable{X:XF}{w0:World}(hX:b7 PR w0 X.cf)
include hX
theorem qkH:ND w0 137 qhi:=NR.mk hX .nil .nil
 (.reg (id:=1) (qsJ hX) (.loop (by decide) (qpP hX) (.reg (id:=17) (qsN hX) (.loop (by decide) (qsP hX) (.reg (id:=21) (qsQ hX) .nil))))) (by
 rintro ps R E ⟨l,rfl,rfl,hc,hp⟩
 (rw[<-qkG];delta Zgv CC ZdI jh ZdF ZdE Z2 Nb VC MC ZdK ZdG Zgu Zgg VF Zgp dK sC VE Zgt Z5 Z3P ZfC F6 UU Sp sT Zgs)
 refine⟨l,rfl,l,[aJ],1,by rw[zaa],hc,λx=>by simp,rfl,λm hm=>⟨m,rfl,λal ha hk hv=>⟨al,rfl,hk,hv,qfC hc (ha.trans hm) hk,λU left B h=>⟨al,U,left,B,rfl,⟨by rw[h];exact UW al,by rw[h,zaa]⟩,λm2 EI=>hp m2 (by rw[EI,h,UX,ha,hm])⟩⟩⟩⟩)
end
abbrev qbD(es:List D)(tl:List (Nat×P)):S:=⟨8,[(0,.d (.sl 4 es)),(2,.sl 1002 0 0)]++tl,[(1002,⟨0,Y,dY []⟩)]⟩
def qpS:S->K (PX×S):=λs E=> ∃es,s=qbD es []/\ ∀b,(es≠[]->b=C)->E (.normal,qbD es [(3,.d (.sl 4 es)),(4,.d (.bool b))])
def Zgz:=gr 0 0
def Zgx:=AC 0 Y (Cs (180:I) C [])
def Zgw:=[(2,IH 1002 0 0)]
def Zgy h:=AS 8 ((0,Do (IR 4 h))::Zgw) [(1002,Zgx)]
theorem qpT es E:(∃h,Zgy es=Zgy h/\ ∀b,(h≠[]->b=C)->bif b then E (ZV,[(0,Zgx)]) else ob (Zgz&&aB (0+J h) 40) (E (IH 0 0 (0+J h),[(0,AC 0 Y (Cs (180:I) C ([]++h)))])))=(PE [] [] [(1000001,qpS)] 138 [.d (.sl 4 es)] []) E:=by kernel_rfl
def qpU:bc:=λps R E=> ∃x,∃es,ps=[.d x]/\R=[]/\(x= .cd/\es=[]\/x= .sl 4 (es.map cx))/\J es<=1000000/\E (.sl 0 0 (J es),[(0,⟨0,Y,dY es⟩)])
abbrev orH(m:MM)(o w:List a8):S:=⟨38,[(3,.mp 0 0),(4,.sl 1 0 (J o)),(5,.sl 2 0 (J w))],[(0,⟨0,Y,.map 49 (nE m) (J m) O⟩),(1,⟨0,Y,dY o⟩),(2,⟨0,Y,dY w⟩)]⟩
def ZgH o:=AC 0 Y (Cs (180:I) C (tF o))
def ZgB w:=dd (zb w-(1:Int))
def ZgC w:=CE (tF w) (ZgB w)
def ZgD w:=we GE (AM (xz (ZgC w) 0))
def ZgE w:=[BC [ZgD w,we GE (AM (xz (ZgC w) 1)),we GE (AM (xz (ZgC w) 2)),GT (Q3 (xz (ZgC w) 3))]]
def ZgG o w:=(1,AC 0 Y (Cs (180:I) C (ab (kQ o) (tF o)++ZgE w)))
def ZgF m w:=aK (nE m (BC [ZgD w,we GE (AM (xz (ZgC w) k7)),we GE (AM (xz (ZgC w) (k7+1)))])) D.cd
theorem qpV m o w E:(bif decide (zb w>(0:Int)) then ob (decide (Z7<=zb w-(1:Int)/\zb w-(1:Int)<=Z8)) (ob (decide ((0:Int)<=zb w-(1:Int)/\zb w-(1:Int)<zb w)) (ob (decide (ZgB w<Av w)) (ob (bE PR (180:I) (ZgC w)) (ob (gr (kQ o) (Av o)&&aB (kQ o+J (ZgE w)) 40) (ob (decide ((0:Int)<=zb w-(1:Int)/\zb w-(1:Int)<=zb w)) (VW 4 (aK (nE m (BC [ZgD w,we GE (AM (xz (ZgC w) 1)),we GE (AM (xz (ZgC w) 2))])) D.cd)=O/\(∀es,ZgF m w=ZdH es->ob (gr (ZgB w) (Av w)&&aB (ZgB w+J es) 40) (E (AD,AS 38 [(3,CC),(4,IH 1 0 (kQ o+J (ZgE w))),(5,IH 2 0 (ZgB w+J es))] [Zgv m,ZgG o w,(2,AC 0 Y (Cs (180:I) C (ab (ZgB w) (tF w)++es)))])))/\(ZgF m w=D.cd->ob (gr (ZgB w) (Av w)&&aB (ZgB w+0) 40) (E (AD,AS 38 [(3,CC),(4,IH 1 0 (kQ o+J (ZgE w))),(5,IH 2 0 (ZgB w+0))] [Zgv m,ZgG o w,(2,AC 0 Y (Cs (180:I) C (ab (ZgB w) (tF w)++[])))])))/\ ∀b n c,ZgF m w=D.qz b n c->False)))))) else E (DD 0,AS 38 [(4,qU o)] [(0,ZgH o)]))=(bV [] [] [] 92 3 (orH m o w)) E:=by kernel_rfl
def qbE(all:List a8):=J all<=1000000/\(all.map (·.1)).Nodup/\ ∀e∈all,e.1≠aJ
def qpW:S->K (PX×S):=λs E=> ∃all,s=orH (lu (mO all)) [] (ic all aJ).reverse/\qbE all/\ ∀o,o=uD all->E (.exit 0,⟨38,[(4,.sl 0 0 (J o))],[(0,⟨0,Y,dY o⟩)]⟩)
def ZgK h:=[(4,Af),(5,IH 2 0 (kQ h))]
def ZgL m (E:P×List (Nat×En)->Prop):=λs0=> ∃x h,s0=[Do x]/\Zn/\(x=D.cd/\h=[]\/x=IR 4 (tF h))/\ZfG h/\ ∃all,AS 38 ((3,CC)::ZgK h) [Zgv m,(1,Zgx),(2,ZgH h)]=AS 38 [(3,CC),(4,Af),(5,IH 2 0 (J (ue (ic all aJ))))] [(0,AC 0 Y (If 49 (λk=>mm (λx=>IR 4 (aa cx (bl x))) (List.find? (λx=>OF (aF (ba x)) k) (lu (mO all)))) (↑(J (lu (mO all))):Int) O)),(1,Zgx),(2,AC 0 Y (Cs (180:I) C (aa cx (ue (ic all aJ)))))]/\qbE all/\ ∀o,o=uD all->E (qU o,[(0,ZgH o)])
def ZgI:=BC [Z5,Z5,Z5]
def ZgJ m:=aK (nE m ZgI) D.cd
theorem qpX l E:(∃h,ZfX l=ZfX h/\Zn/\dm h/\ ∀m,m=lu (mO (ku h))->VW 4 (ZgJ m)=O/\(∀es,ZgJ m=ZdH es->ZgL m E [Do (IR 4 es)])/\(ZgJ m=D.cd->ZgL m E [Do D.cd])/\ ∀b n c,ZgJ m=D.qz b n c->ZgL m E [Do (D.qz b n c)])=(fK [] [(137,qhi),(138,qpU)] [(3,ah (aV 92 3) qpW)] 92 [jI l] []) E:=by kernel_rfl
def qhj:bc:=λps R E=> ∃l,ps=[jI l]/\R=[]/\dm l/\ ∀o,o=uD (ku l)->E (.sl 0 0 (J o),[(0,⟨0,Y,dY o⟩)])
end Pi
