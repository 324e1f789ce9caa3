/- The texts RpH Rm RmH Hi6 Hi6H Ro Vw2 Vw2H RoH HgP ElP GnP Gn2 Gn1 Gn1H Gn2H Gn3 HlP Hi7 Hi7H W20 Gn3H Ls LsF LsH Lt GnF LtH. -/
import Derived.Test.YtngoddkencoalaaGreatDoorEbv
import Derived.Lib.LaidTab
import Derived.Lib.LaidU8T
import Derived.Stop.LaidErr
import Derived.Shelf.Vars
import Derived.Lay
import Derived.Deep.DeepHandedRow
import Derived.SevenTiedAt
import Derived.ProofKit
import Derived.Test.YtngoddkencoalaaGreatDoorRows
namespace Pi
open Go Go.Proofs
set_option maxRecDepth 100000
set_option maxHeartbeats 0
theorem GA (x:Td):cC PR 155 (ni x)=true:=by kernel_rfl
section
variable {X:XF}
theorem qgK:FD X 86 qdU:=qaX.weaken fun ps R post h=>by
 obtain⟨l,x,y,rfl,rfl,hm,hp⟩:=h
 exact⟨false,l,x,y,rfl,rfl,hm,hp⟩
theorem YG:LD X 85 7 (ae (aL 85 7) qdQ):=LD.idx (H:=[]) (hk:=[]) (by kernel_rfl) (by kernel_rfl) .nil .nil
 (A:=List au×List Pl×List Td×Int×au) (B:=Bool) (fun a b k=>rsB a.1 a.2.1 a.2.2.1 a.2.2.2.1 b k) (fun a=>a.2.2.1.length) (fun a k b=>(a.2.2.1.length<=1000000/\0<=a.2.2.2.1/\a.2.2.2.1<a.1.length/\D.nth (a.1.map bB) a.2.2.2.1.toNat=bB a.2.2.2.2)/\b=((a.2.2.1.take k).any fun x=>x.1==a.2.2.2.2))
 (fun a x=>x=(.exit 2,⟨93,[(0,cO a.1),(1,eG a.2.1),(5,.sl 0 0 a.2.2.1.length),(6,iD a.2.2.2.1),(7,.d (.bool (a.2.2.1.any fun x=>x.1==a.2.2.2.2)))],[(0,⟨0,none,qD false a.2.2.1⟩)]⟩))
 (by
  rintro⟨a,l,t,i,y⟩ b k post h0 tA dO ⟨⟨hm,oM,bN,hy⟩,hb⟩ hn ho
  try dsimp only at*
  (rw[<-qa8];delta gh vo Zg gq IZ I0 I1 wz pL vf MX rT Vv Ea Vw Zn qz ZO Zt ZK JF im lB Eb lJ Dv Za Z9 Zj)
  have e1:D.nth (t.map ni) k.toNat=ni t[k.toNat]:=ay _ _ _ dO
  have lL:(t.take (k.toNat+1)).any (fun x=>x.1==y)=(b ||t[k.toNat].1==y):=by
   rw[zag dO,zcf,hb]
   simp
  rw[e1,hy]
  generalize t[k.toNat]=z at*
  simp only[zaa]
  refine bJ tA ?_
  have v:(D.ah (D.aq (ni z) 0)==D.ah (D.aq (bB y) 0)&&(D.ah (D.aq (ni z) 1)==D.ah (D.aq (bB y) 1)&&true)&&(D.ah (D.aq (ni z) 2)==D.ah (D.aq (bB y) 2)&&true))=(z.1==y):=DX z.1 y
  rw[v]
  refine ax (fun DY=>ak (by omega) (hn true ⟨⟨hm,oM,bN,hy⟩,by rw[lL,DY,zb9]⟩)) fun BD=>ak ⟨h0,tA⟩ (ak (by first |exact dO |simpa using dO) (ao (GA _) (ak ⟨oM,bN⟩ (ao (lF _) (ak (by omega) (hn _ ⟨⟨hm,oM,bN,hy⟩,by rw[lL,BD,zbo]⟩)))))))
 (by
  rintro⟨a,l,t,i,y⟩ b k post hk ⟨⟨hm,oM,bN,hy⟩,hb⟩ ho
  try dsimp only at*
  (rw[<-qa8];delta gh vo Zg gq IZ I0 I1 wz pL vf MX rT Vv Ea Vw Zn qz ZO Zt ZK JF im lB Eb lJ Dv Za Z9 Zj)
  refine lK (by omega) (ho _ (fun h=>by cases h) ?_)
  rw[hb,zak])
 (by
  rintro s post ⟨a,l,t,i,hi,rfl,⟨h1,h2,h3⟩,hp⟩
  refine⟨(a,l,t,i,a[i.toNat]),false,rfl,⟨⟨h1,h2,h3,ay _ _ _ hi⟩,by simp⟩,?_⟩
  rintro x rfl
  exact hp _ rfl)
theorem YH:LD X 85 13 (ae (aL 85 13) qdR):=LD.ins (H:=[(88,iR)]) (hk:=[]) (by kernel_rfl) (by kernel_rfl) (.cons mM .nil) .nil
 (A:=List au×List Pl×Nat×Int) (α:=Td) (fun a o k=>rsC a.1 a.2.1 o a.2.2.1 a.2.2.2 k) ltT (fun a=>a.2.2.1) (fun _=>True) (fun a o=>(.exit 4,⟨93,[(0,cO a.1),(1,eG a.2.1),(5,.sl 0 0 a.2.2.1),(6,iD a.2.2.2)],[(0,⟨0,none,qD false o⟩)]⟩)) (fun _ _ h=>by cases h)
 (by
  rintro⟨a,l,n,i⟩ o k post _ h0 Hj lX hk hz bZ dZ
  try dsimp only at*
  subst Hj
  (rw[<-qgH];delta Ea Vw Zt ZK Jy Zg rT Zao Zan Zam Zal Zak Zaj Zap Zaq Zs Z7Q ZB ZC im lB Eb gq lJ Dv Zc Gz Zar NH Sp Zx ZE GY Sq wH Za Z9 Zb Vv my Zr)
  refine cA (fun hp=> ?_) fun hp=>hz (by omega)
  have fW:k.toNat-1<o.length:=by omega
  have ek:(k-1).toNat=k.toNat-1:=by omega
  have e1:D.nth (o.map ni) k.toNat=ni o[k.toNat]:=ay _ _ _ hk
  have e2:D.nth (o.map ni) (k.toNat-1)=ni o[k.toNat-1]:=ay _ _ _ fW
  have bZ:=bZ hp
  have dZ:=dZ hp
  have yN:=kB ni o k.toNat o[k.toNat] o[k.toNat-1]
  have e3: ∀z,D.nth ((o.map ni).set k.toNat z) (k.toNat-1)=ni o[k.toNat-1]:=fun z=>by
   unfold D.nth
   rw[zac,zaW (by omega)]
   simp[fW]
  rw[ek,e1,e2]
  simp only[e3]
  generalize o[k.toNat]=x at*
  generalize o[k.toNat-1]=y at*
  simp only[zaa,zbg] at dZ⊢
  have yO:0<=k/\k<(o.length:Int):=⟨h0,by omega⟩
  have yP:0<=k-1/\k-1<(o.length:Int):=⟨by omega,by omega⟩
  have hf:(-9223372036854775808:Int)<=k-1/\k-1<=9223372036854775807:=by omega
  refine ak yO (ak hk (ao (GA _) (ak hf (ak yP (ak fW (ao (GA _) ⟨(x.1).1,(x.1).2.1,(x.1).2.2,(y.1).1,(y.1).2.1,(y.1).2.2,rfl,rfl,cA (fun h=> ?_) fun h=>bZ (by rw[<-zaV];exact fun h2=>h ((hZ (x.1) (y.1)).2 h2))⟩))))))
  have hy:=dZ ((hZ (x.1) (y.1)).1 h)
  simp only[rsC,qD] at hy
  rw[<-yN] at hy
  refine ak hf (ak hf (ak yP (ak fW (ao (GA _) (ak yO (ak hk (ao (GA _) (ak yO (ak hk (ao (GA _) (ak yP (ak fW (ao (GA _) (ak hf ?_))))))))))))))
  exact hy)
 (by
  rintro s post ⟨a,l,o,x,n,i,k,rfl,⟨hk,hn,ho⟩,hp⟩
  refine⟨(a,l,n,i),o,x,k,rfl,hk,trivial,⟨hn.symm,ho⟩,?_⟩
  have:=hp _ rfl
  rw[rsA,ln,<-hn] at this
  exact this)
theorem YI {a:List au} {l:List Pl} {i:Nat} (h:i<a.length) (h2:i<l.length):Jx (a.take (i+1)) (l.take (i+1))=Vl (Jx (a.take i) (l.take i)) (a[i],l[i]):=by
 unfold Jx
 rw[zag h,zag h2,List.zip_append (by rw[zay,zay];omega),za1]
 rfl
theorem YJ:LD X 85 3 (ae (aL 85 3) qdS):=LD.idx (H:=[]) (hk:=[(7,ae (aL 85 7) qdQ),(13,ae (aL 85 13) qdR)]) (by kernel_rfl) (by kernel_rfl) .nil (.cons YG (.cons YH .nil))
 (A:=List au×List Pl) (B:=List Td) (fun a t i=>rsA a.1 a.2 t i) (fun a=>a.1.length) (fun a i t=>(a.1.length<=1000000/\a.2.length=a.1.length)/\t=Jx (a.1.take i) (a.2.take i))
 (fun a x=>x=(.exit 0,⟨93,[(5,.sl 0 0 (Jx a.1 a.2).length)],[(0,⟨0,none,qD false (Jx a.1 a.2)⟩)]⟩))
 (by
  rintro⟨a,l⟩ t i post h0 bN bg ⟨hm,ht⟩ hn ho
  try dsimp only at*
  rw[<-qa9]
  have qgL:i.toNat<l.length:=by omega
  have htl:t.length<=i.toNat:=by
   have:=wI (a.take i.toNat) (l.take i.toNat)
   rw[zay] at this
   rw[ht]
   omega
  have e1:D.nth (a.map bB) i.toNat=bB a[i.toNat]:=ay _ _ _ bg
  have e2:D.nth (l.map bI) i.toNat=bI l[i.toNat]:=ay _ _ _ qgL
  have kC:=YI bg qgL
  rw[<-ht] at kC
  have fT:=fun t' (h:t'=Vl t (a[i.toNat],l[i.toNat]))=>hn t' ⟨hm,by rw[kC];exact h⟩
  simp only[zaa]
  refine bJ bN (bJ (by omega) ⟨a,l,t,i,bg,rfl,⟨by omega,h0,bN⟩,fun b hb=> ?_⟩)
  rw[e1,e2]
  generalize a[i.toNat]=x at*
  generalize l[i.toNat]=p at*
  refine ax (fun DY=>ak (by omega) (fT t ?_)) fun BD=> ?_
  ·unfold Vl
   rw[zao (by rw[<-hb];exact DY)]
  ·have SS:Vl t (x,p)=cJ ltT t (x,p):=by
    unfold Vl
    rw[zam (by rw[<-hb,BD];simp)]
   have t1:List.take t.length (t.map ni)++[ni (x,p)]=(t++[(x,p)]).map ni:=cq ni t (x,p)
   simp only[zap,zat,zaF]
   refine ak ⟨h0,bN⟩ (ao (lF _) (ak ⟨h0,by omega⟩ (ao (hY _) (ao ?_ (ak (by omega) ⟨a,l,t,(x,p),t.length+1,i,((t.length+1:Nat):Int)-1,congrArg (fun z=>(⟨93,[(0,cO a),(1,eG l),(5,.sl 0 0 (t.length+1)),(6,iD i),(9,iD (((t.length+1:Nat):Int)-1))],[(0,⟨0,none,.arr 155 false z⟩)]⟩:S)) t1,⟨by omega,rfl,by omega⟩,fun t' ht'=>ak (by omega) (fT t' (by rw[SS];exact ht'))⟩)))))
   rw[zab]
   exact⟨by simp,cj (by omega) (by omega)⟩)
 (by
  rintro⟨a,l⟩ t i post hi ⟨hm,ht⟩ ho
  try dsimp only at*
  rw[<-qa9]
  refine lK (by simp only[zaa];omega) (ho _ (fun h=>by cases h) ?_)
  rw[ht,zak,<-hm.2,zak])
 (by
  rintro s post ⟨a,l,rfl,hm,hp⟩
  refine⟨(a,l),[],rfl,⟨hm,rfl⟩,?_⟩
  rintro x rfl
  exact hp _ rfl)
theorem qgM:FD X 85 qdT:=FD.mk (H:=[]) (hk:=[(3,ae (aL 85 3) qdS)]) (by kernel_rfl) .nil (.cons YJ .nil) (by
 intro ps R post hh
 obtain⟨a,l,rfl,rfl,hm,hp⟩:=hh
 (rw[<-qgI];delta Ea Vw ia jR pS Z7 Js ZQ SL im lB Eb gq lJ Dv Zat)
 exact⟨a,l,rfl,hm,fun t ht=>hp t ht⟩)
theorem YK:LD X 55 14 (ae (aL 55 14) qdV):=LD.ins (H:=[(88,iR)]) (hk:=[]) (by kernel_rfl) (by kernel_rfl) (.cons mM .nil) .nil
 (A:=List Td×Nat×Int) (α:=Pl) (fun a o k=>rpB a.1 o a.2.1 a.2.2 k) ltN (fun a=>a.2.1) (fun _=>True) (fun a o=>(.exit 2,⟨96,[(5,.sl 0 0 a.1.length),(6,.sl 1 0 a.2.1),(7,iD a.2.2)],[(0,⟨0,none,qD false a.1⟩),(1,⟨0,none,pT false o⟩)]⟩)) (fun _ _ h=>by cases h)
 (by
  rintro⟨t,m,i⟩ o k post _ h0 Hj lX hk hz bZ dZ
  try dsimp only at*
  subst Hj
  (rw[<-qgJ];delta im Ow Gp Ea Zt rR Ju JF Zax Zg oh Nl Nn Np X2 Zs Z8J Zc Lw Zav Vx Sp Zx ZE GY Sq Jq r5 wH Za Z9 Zb qy Hc my Zr)
  refine cA (fun hp=> ?_) fun hp=>hz (by omega)
  have fW:k.toNat-1<o.length:=by omega
  have ek:(k-1).toNat=k.toNat-1:=by omega
  have e1:D.nth (o.map bI) k.toNat=bI o[k.toNat]:=ay _ _ _ hk
  have e2:D.nth (o.map bI) (k.toNat-1)=bI o[k.toNat-1]:=ay _ _ _ fW
  have bZ:=bZ hp
  have dZ:=dZ hp
  have yN:=kB bI o k.toNat o[k.toNat] o[k.toNat-1]
  have e3: ∀z,D.nth ((o.map bI).set k.toNat z) (k.toNat-1)=bI o[k.toNat-1]:=fun z=>by
   unfold D.nth
   rw[zac,zaW (by omega)]
   simp[fW]
  rw[ek,e1,e2]
  simp only[e3]
  generalize o[k.toNat]=x at*
  generalize o[k.toNat-1]=y at*
  simp only[zaa,zbg] at dZ⊢
  have yO:0<=k/\k<(o.length:Int):=⟨h0,by omega⟩
  have yP:0<=k-1/\k-1<(o.length:Int):=⟨by omega,by omega⟩
  have hf:(-9223372036854775808:Int)<=k-1/\k-1<=9223372036854775807:=by omega
  refine ak yO (ak hk (ao (hY _) (ak hf (ak yP (ak fW (ao (hY _) ⟨(x.1).1,(x.1).2.1,(x.1).2.2,(y.1).1,(y.1).2.1,(y.1).2.2,rfl,rfl,cA (fun h=> ?_) fun h=>bZ (by rw[<-zaV];exact fun h2=>h ((hZ (x.1) (y.1)).2 h2))⟩))))))
  have hy:=dZ ((hZ (x.1) (y.1)).1 h)
  simp only[rpB,pT,qD] at hy
  rw[<-yN] at hy
  refine ak hf (ak hf (ak yP (ak fW (ao (hY _) (ak yO (ak hk (ao (hY _) (ak yO (ak hk (ao (hY _) (ak yP (ak fW (ao (hY _) (ak hf ?_))))))))))))))
  exact hy)
 (by
  rintro s post ⟨t,o,x,m,i,k,rfl,⟨hk,hn,ho⟩,hp⟩
  refine⟨(t,m,i),o,x,k,rfl,hk,trivial,⟨hn.symm,ho⟩,?_⟩
  have:=hp _ rfl
  rw[rpA,ln,<-hn] at this
  exact this)
theorem YL {t:List Td} {i:Nat} (h:i<t.length):Nu (t.take (i+1))=SB (Nu (t.take i)) t[i]:=by
 unfold Nu
 rw[zag h,za1]
 rfl
theorem YM:LD X 55 4 (ae (aL 55 4) qdW):=LD.idx (H:=[(86,qdU),(87,Gm)]) (hk:=[(14,ae (aL 55 14) qdV)]) (by kernel_rfl) (by kernel_rfl) (.cons qgK (.cons Ss .nil)) (.cons YK .nil)
 (A:=List Td) (B:=List Pl) (fun t o i=>rpA t o i) (fun t=>t.length) (fun t i o=>t.length<=1000000/\o=Nu (t.take i))
 (fun t x=>x=(.exit 0,⟨96,[(6,.sl 0 0 (Nu t).length)],[(0,⟨0,none,pT false (Nu t)⟩)]⟩))
 (by
  rintro t o i post h0 bN bg ⟨hm,ho⟩ hn br
  (rw[<-qba];delta im Ow He Zt Ju Zg rT Zao Zan Zam Zal Zak Zaj Zap rR JF Za Z9 jR ZaA r5 D4 Z6W nW X3 gP gO h9 gB gC uf iV Zaz s6 Gp Ea Zn ZL Zay Zj Vv)
  have lX:o.length<=i.toNat:=by
   have:=Dy (t.take i.toNat)
   rw[zay] at this
   rw[ho]
   omega
  have e1:D.nth (t.map ni) i.toNat=ni t[i.toNat]:=ay _ _ _ bg
  have kC:=YL bg
  rw[<-ho] at kC
  have fT:=fun o' (h:o'=SB o t[i.toNat])=>hn o' ⟨hm,by rw[kC];exact h⟩
  rw[e1]
  generalize t[i.toNat]=y at*
  have v:(D.ah (D.aq (ni y) 3)==0&&(D.ah (D.aq (ni y) 4)==0&&true)&&(D.ah (D.aq (ni y) 5)==0&&true))=(y.2.1==aA):=DX y.2.1 aA
  have qiE:i.toNat<(t.map ni).length:=by rw[zaa];exact bg
  rw[v]
  simp only[zap,zat,zaF]
  refine bJ bN (ak ⟨h0,bN⟩ (ak qiE (ao (GA _) ?_)))
  refine ax (fun hr=>ak (by omega) (fT o ?_)) fun hr=>⟨o,y.2.2.1,y.2.1,rfl,rfl,by omega,fun b hb=>ax (fun DY=>ak (by omega) (fT o ?_)) fun BD=>⟨o,y.2.1,rfl,rfl,by omega,cA (fun Ez=> ?_) fun Ez=> ?_⟩⟩
  ·unfold SB
   rw[zao (.inl (by simpa using hr))]
  ·unfold SB
   rw[zao (.inr (by rw[<-hb];exact DY))]
  ·have bZ: ¬(y.2.1=aA\/within o y.2.2.1 y.2.1=true):=fun hh=>hh.elim (fun e=>by rw[e] at hr;simp at hr) (fun e=>by rw[<-hb,BD] at e;cases e)
   have Bx:(eM o y.2.1).toNat<o.length:=by
    rcases rQ (fun p:Pl=>p.1==y.2.1) o with⟨k,p,h2,h3,h4⟩| ⟨h2,h3⟩
    ·have hk:k<o.length:=(zad.1 h2).1
     have e:eM o y.2.1=(k:Int):=h4
     omega
    ·have e:eM o y.2.1= -1:=h2
     omega
   have Ki:(eM o y.2.1).toNat<(o.map bI).length:=by rw[zaa];exact Bx
   have hy:=fT (o.set (eM o y.2.1).toNat (y.2.1,y.2.2.1,y.2.2.2.1,(o.getD (eM o y.2.1).toNat sP).2.2.2)) (by unfold SB;rw[zam bZ,zao Ez])
   rw[iS Bx]
   generalize o.getD (eM o y.2.1).toNat sP=q at*
   simp only[rpA,pT,qD,zb0,zbg] at hy
   refine ak ⟨Ez,by omega⟩ (ak Ki (ao (hY _) (ak ⟨Ez,by omega⟩ (ak Ki (ao (hY _) (ak (by omega) ?_))))))
   exact hy
  ·have bZ: ¬(y.2.1=aA\/within o y.2.2.1 y.2.1=true):=fun hh=>hh.elim (fun e=>by rw[e] at hr;simp at hr) (fun e=>by rw[<-hb,BD] at e;cases e)
   have t1:List.take o.length (o.map bI)++[bI y.2]=(o++[y.2]).map bI:=cq bI o y.2
   refine ao ?_ (ak (by omega) ⟨t,o,y.2,o.length+1,i,((o.length+1:Nat):Int)-1,congrArg (fun z=>(⟨96,[(5,.sl 0 0 t.length),(6,.sl 1 0 (o.length+1)),(7,iD i),(10,iD (((o.length+1:Nat):Int)-1))],[(0,⟨0,none,qD false t⟩),(1,⟨0,none,.arr 104 false z⟩)]⟩:S)) t1,⟨by omega,rfl,by omega⟩,fun o' gf=>ak (by omega) (fT o' (by unfold SB;rw[zam bZ,zam Ez];exact gf))⟩)
   rw[zab]
   exact⟨by simp,cj (by omega) (by omega)⟩)
 (by
  rintro t o i post hi ⟨hm,ho⟩ br
  (rw[<-qba];delta im Ow He Zt Ju Zg rT Zao Zan Zam Zal Zak Zaj Zap rR JF Za Z9 jR ZaA r5 D4 Z6W nW X3 gP gO h9 gB gC uf iV Zaz s6 Gp Ea Zn ZL Zay Zj Vv)
  refine lK (by first |omega | (simp only[zaa];omega)) (br _ (fun h=>by cases h) ?_)
  rw[ho,zak])
 (by
  rintro s post ⟨t,rfl,hm,hp⟩
  refine⟨t,[],rfl,⟨hm,rfl⟩,?_⟩
  rintro x rfl
  exact hp _ rfl)
theorem qgN:FD X 55 qdX:=FD.mk (H:=[(85,qdT)]) (hk:=[(4,ae (aL 55 4) qdW)]) (by kernel_rfl) (.cons qgM .nil) (.cons YM .nil) (by
 intro ps R post hh
 obtain⟨a,l,rfl,rfl,hm,hp⟩:=hh
 (rw[<-qiD];delta im Ow He jR s6 zs Ea Z7 rB zt Z7V JF ZaB ia pS Zx lB gq lJ)
 have:=wI a l
 exact⟨a,l,rfl,rfl,hm,fun t ht=>⟨t,rfl,by rw[ht];omega,fun o ho=>hp o (by rw[ho,ht])⟩⟩)
end
abbrev md3 (l:List aj) (p o:List Pl) (i:Int):S:=⟨78,[(0,bP l),(1,eG p),(5,.sl 0 0 o.length),(6,iD i)],[(0,⟨0,none,pT false o⟩)]⟩
abbrev md6 (l:List aj) (p o:List Pl) (i j:Int):S:=⟨78,[(0,bP l),(1,eG p),(5,.sl 0 0 o.length),(6,iD i),(7,iD j)],[(0,⟨0,none,pT false o⟩)]⟩
abbrev md9 (l:List aj) (p o:List Pl) (i j k:Int):S:=⟨78,[(0,bP l),(1,eG p),(5,.sl 0 0 o.length),(6,iD i),(7,iD j),(8,iD k)],[(0,⟨0,none,pT false o⟩)]⟩
def ZaI (k:Int) (post:PX×S->Prop) (l:List aj) (p:List Pl) (o:List Pl) (i:Int) (j:Int):Prop:=bif Zj k then post (PX.normal,S.mk 78 (gi l::Eb p::(5,s6 o)::ZK i::rR j::qz k) (He o)) else False
def lv (l:List aj) (j:Int) (k:Int):D:=D.nth (D.e8 (D.aq (gQ l j) 6)) (Zg k)
def ZaH (p:List Pl) (i:Int) (l:List aj) (j:Int) (k:Int):List D:=[D.agg [Np p i,Nn p i,Nl p i,D.int .i64 (D.ah (D.aq (oh p i) 3)),D.int .i64 (D.ah (D.aq (oh p i) 4)),D.int .i64 (D.ah (D.aq (oh p i) 5)),D.str (D.eI (D.aq (oh p i) 6)),D.bool (D.e7 (D.aq (lv l j k) 8))]]
def Hk (l:List aj) (j:Int) (k:Int):Int:=D.ah (D.aq (lv l j k) 0)
noncomputable def Hl (l:List aj) (j:Int) (k:Int):Bool:=cC PR (54:TypeId) (lv l j k)
def NI (l:List aj) (j:Int):Int:=(↑(List.length (D.e8 (D.aq (gQ l j) 6))):Int)
def Hm (k:Int) (l:List aj) (j:Int):Bool:=decide ((0:Int)<=k/\k<NI l j)
theorem qbb (l:List aj) (p o:List Pl) (i j k:Int) (post:PX×S->Prop):(bif ji j l then bif ep l j then bif decide (k<NI l j) then bif ji j l then bif ep l j then bif Hm k l j then bif Hl l j k then bif Hk l j k==(0:Int) then bif ji j l then bif ep l j then bif Hm k l j then bif Hl l j k then bif Gk i p then bif qy p i then bif D.ah (D.aq (lv l j k) 1)==D.ah (D.aq (oh p i) 0)&&(D.ah (D.aq (lv l j k) 2)==D.ah (D.aq (oh p i) 1)&&true)&&(D.ah (D.aq (lv l j k) 3)==D.ah (D.aq (oh p i) 2)&&true) then bif Gk i p then bif qy p i then bif ji j l then bif ep l j then bif Hm k l j then bif Hl l j k then bif Nat.ble (jR o) (r5 o)&&aN (jR o+List.length (ZaH p i l j k)) 72 then bif Zj k then post (PX.normal,S.mk 78 (gi l::Eb p::(5,P.sl 0 0 (jR o+List.length (ZaH p i l j k)))::ZK i::rR j::qz k) [(0,En.mk 0 none (Obj.arr (104:TypeId) false (List.take (jR o) (im o)++ZaH p i l j k)))]) else False else False else False else False else False else False else False else False else ZaI k post l p o i j else False else False else False else False else False else False else ZaI k post l p o i j else False else False else False else False else post (PX.exit 4,S.mk 78 [gi l,Eb p,(5,s6 o),ZK i,rR j] (He o)) else False else False)=(aD [] [] 54 9 (md9 l p o i j k)) post:=by kernel_rfl
def qdY:S->K (PX×S):=fun s post=> ∃(l:List aj) (p o:List Pl) (i j:Int) (hi:i.toNat<p.length) (hj:j.toNat<l.length),s=md9 l p o i j 0/\((0<=i/\0<=j/\p.length<=1000)/\l.length<=1000000/\o.length<=1000/\l[j.toNat].ops.length<=200)/\ ∀o',o'=o++mdG p[i.toNat] l[j.toNat]->post (.exit 4,md6 l p o' i j)
theorem qbc (l:List aj) (p o:List Pl) (i j:Int) (post:PX×S->Prop):(bif decide (j<(↑(List.length (List.map aU l)):Int)) then∃(ar:List aj),∃(l0:List Pl),∃(aP:List Pl),∃(aG:Int),∃(j_1:Int),∃(hi:Int.toNat aG<List.length l0),∃(hj:Int.toNat j_1<List.length ar),S.mk 78 [(0,P.d (D.sl 7 (List.map aU l))),(1,P.d (D.sl 8 (List.map bI p))),(5,P.sl 0 0 (List.length o)),(6,P.d (D.int IntKind.i64 i)),(7,P.d (D.int IntKind.i64 j)),(8,P.d (D.int IntKind.i64 (0:Int)))] [(0,En.mk 0 none (Obj.arr 104 false (List.map bI o)))]=S.mk 78 [(0,P.d (D.sl 7 (List.map aU ar))),(1,P.d (D.sl 8 (List.map bI l0))),(5,P.sl 0 0 (List.length aP)),(6,P.d (D.int IntKind.i64 aG)),(7,P.d (D.int IntKind.i64 j_1)),(8,P.d (D.int IntKind.i64 (0:Int)))] [(0,En.mk 0 none (Obj.arr 104 false (List.map bI aP)))]/\(((0:Int)<=aG/\(0:Int)<=j_1/\List.length l0<=1000)/\List.length ar<=1000000/\List.length aP<=1000/\List.length (aj.ops ar[Int.toNat j_1])<=200)/\ ∀(o':List Pl),o'=aP++mdG l0[Int.toNat aG] ar[Int.toNat j_1]->bif decide ((-9223372036854775808:Int)<=j_1+(1:Int)/\j_1+(1:Int)<=(9223372036854775807:Int)) then post (PX.normal,S.mk 78 [(0,P.d (D.sl 7 (List.map aU ar))),(1,P.d (D.sl 8 (List.map bI l0))),(5,P.sl 0 0 (List.length o')),(6,P.d (D.int IntKind.i64 aG)),(7,P.d (D.int IntKind.i64 (j_1+(1:Int))))] [(0,En.mk 0 none (Obj.arr 104 false (List.map bI o')))]) else False else post (PX.exit 2,S.mk 78 [(0,P.d (D.sl 7 (List.map aU l))),(1,P.d (D.sl 8 (List.map bI p))),(5,P.sl 0 0 (List.length o)),(6,P.d (D.int IntKind.i64 i))] [(0,En.mk 0 none (Obj.arr 104 false (List.map bI o)))]))=(aD [] [(9,ae (aL 54 9) qdY)] 54 6 (md6 l p o i j)) post:=by kernel_rfl
def qdZ:S->K (PX×S):=fun s post=> ∃(l:List aj) (p o:List Pl) (i:Int) (hi:i.toNat<p.length),s=md6 l p o i 0/\((0<=i/\p.length<=1000)/\l.length<=1000000/\o.length<=999/\(∀g∈l,cx g=true)/\(l.map (·.s)).Nodup)/\ ∀o',o'=o++D5 l p[i.toNat]->post (.exit 2,md3 l p o' i)
theorem qbd (l:List aj) (p o:List Pl) (i:Int) (post:PX×S->Prop):(bif decide (i<(↑(List.length (List.map bI p)):Int)) then∃(ar:List aj),∃(l0:List Pl),∃(aP:List Pl),∃(aG:Int),∃(hi:Int.toNat aG<List.length l0),S.mk 78 [(0,P.d (D.sl 7 (List.map aU l))),(1,P.d (D.sl 8 (List.map bI p))),(5,P.sl 0 0 (List.length o)),(6,P.d (D.int IntKind.i64 i)),(7,P.d (D.int IntKind.i64 (0:Int)))] [(0,En.mk 0 none (Obj.arr 104 false (List.map bI o)))]=S.mk 78 [(0,P.d (D.sl 7 (List.map aU ar))),(1,P.d (D.sl 8 (List.map bI l0))),(5,P.sl 0 0 (List.length aP)),(6,P.d (D.int IntKind.i64 aG)),(7,P.d (D.int IntKind.i64 (0:Int)))] [(0,En.mk 0 none (Obj.arr 104 false (List.map bI aP)))]/\(((0:Int)<=aG/\List.length l0<=1000)/\List.length ar<=1000000/\List.length aP<=999/\(∀(g:aj),g∈ar->cx g=true)/\List.Nodup (List.map (fun(x:aj)=>aj.s x) ar))/\ ∀(o':List Pl),o'=aP++D5 ar l0[Int.toNat aG]->bif decide ((-9223372036854775808:Int)<=aG+(1:Int)/\aG+(1:Int)<=(9223372036854775807:Int)) then post (PX.normal,S.mk 78 [(0,P.d (D.sl 7 (List.map aU ar))),(1,P.d (D.sl 8 (List.map bI l0))),(5,P.sl 0 0 (List.length o')),(6,P.d (D.int IntKind.i64 (aG+(1:Int))))] [(0,En.mk 0 none (Obj.arr 104 false (List.map bI o')))]) else False else post (PX.exit 0,S.mk 78 [(5,P.sl 0 0 (List.length o))] [(0,En.mk 0 none (Obj.arr 104 false (List.map bI o)))]))=(aD [] [(6,ae (aL 54 6) qdZ)] 54 3 (md3 l p o i)) post:=by kernel_rfl
def qd0:S->K (PX×S):=fun s post=> ∃(l:List aj) (p:List Pl),s=md3 l p [] 0/\(p.length<=1000/\l.length<=1000000/\(∀g∈l,cx g=true)/\(l.map (·.s)).Nodup)/\ ∀o,o=Hh l p->post (.exit 0,⟨78,[(5,.sl 0 0 o.length)],[(0,⟨0,none,pT false o⟩)]⟩)
def ZaK (ar:List aj):Prop:= ∀(g:aj),g∈ar->cx g=true
def ZaL (l0:List Pl) (ar:List aj):Prop:=jR l0<=1000/\mx ar/\ZaK ar/\List.Nodup (List.map (fun(x:aj)=>aj.s x) ar)
def ZaJ (l:List aj) (p:List Pl):S:=S.mk 78 (gi l::Eb p::SL) [(0,zs)]
theorem qiF (l:List aj) (p:List Pl) (post:P×List (Nat×En)->Prop):(∃(ar:List aj) (l0:List Pl),ZaJ l p=ZaJ ar l0/\ZaL l0 ar/\ ∀(o:List Pl),o=Hh ar l0->post (s6 o,He o))=(aJ [] [(3,ae (aL 54 3) qd0)] 54 [bP l,eG p] []) post:=by kernel_rfl
def Tw:bq:=fun ps R post=> ∃l p,ps=[bP l,eG p]/\R=[]/\(p.length<=1000/\l.length<=1000000/\(∀g∈l,cx g=true)/\(l.map (·.s)).Nodup)/\ ∀o,o=Hh l p->post (.sl 0 0 o.length,[(0,⟨0,none,pT false o⟩)])
abbrev ofR (m:List aj) (o:List az) (nh nl:Nat) (A P H L:List D):List (Nat×En):=[(0,⟨0,none,oR true m⟩),(1,⟨0,none,.box 69 [.sl 2 0 0,.sl 3 0 0,.sl 4 0 0,.sl 5 0 0,.sl 6 0 0]⟩),(2,⟨0,none,lZ false []⟩),(3,⟨0,none,pT false []⟩),(4,⟨0,none,qgj false []⟩),(5,⟨0,none,qgj false []⟩),(6,⟨0,none,.arr 72 false []⟩),(7,⟨0,none,.box 69 [.sl 8 0 o.length,.sl 9 0 0,.sl 10 0 nh,.sl 11 0 nl,.sl 12 0 0]⟩),(8,⟨0,none,lZ false o⟩),(9,⟨0,none,pT false []⟩),(10,⟨0,none,.arr 106 false H⟩),(11,⟨0,none,.arr 106 false L⟩),(12,⟨0,none,.arr 72 false []⟩),(13,⟨0,none,.arr 50 false A⟩),(14,⟨0,none,.arr 104 false P⟩)]
abbrev of7 (m:List aj) (o:List az) (na np nh nl:Nat) (A P H L:List D) (i:Int):S:=⟨140,[(0,.sl 0 0 m.length),(2,.ref 1 0 0),(3,.ref 7 0 0),(4,.sl 13 0 na),(5,.sl 14 0 np),(6,iD i)],ofR m o nh nl A P H L⟩
abbrev Tx (m:List aj) (o:List az) (na np nh nl:Nat) (A P H L:List D) (i:Int) (on:Bool) (k:Int):S:=⟨140,[(0,.sl 0 0 m.length),(2,.ref 1 0 0),(3,.ref 7 0 0),(4,.sl 13 0 na),(5,.sl 14 0 np),(6,iD i),(7,.d (.bool on)),(8,iD k)],ofR m o nh nl A P H L⟩
abbrev qd1 (m:List aj) (o:List az) (y:aW) (na np nh nl:Nat) (A P H L:List D) (i:Int) (on:Bool) (k j:Int):S:=⟨140,[(0,.sl 0 0 m.length),(2,.ref 1 0 0),(3,.ref 7 0 0),(4,.sl 13 0 na),(5,.sl 14 0 np),(6,iD i),(7,.d (.bool on)),(8,iD k),(9,.ref 15 0 0),(10,iD j)],ofR m o nh nl A P H L++[(15,⟨0,none,qgE y⟩)]⟩
def Ty:Nat×En:=(12,Vk)
def YN (H:List D):Nat×En:=(10,bO H)
def NJ:Nat×En:=(9,zs)
def NK (o:List az):Nat×En:=(8,oH o)
def YO:List P:=[P.sl 12 0 0]
def YP:P:=P.sl 9 0 0
def Zb5 (o:List az) (nh:Nat) (nl:Nat):Nat×En:=(7,En.mk 0 none (Obj.box (69:TypeId) (P.sl 8 0 (eu o)::YP::P.sl 10 0 nh::P.sl 11 0 nl::YO)))
def NL:Nat×En:=(6,Vk)
def Hn:En:=En.mk 0 none (Obj.arr (106:TypeId) false [])
def NM:Nat×En:=(5,Hn)
def NN:Nat×En:=(4,Hn)
def NP:Nat×En:=(3,zs)
def Ap:Nat×En:=(2,vU)
def NQ:Nat×En:=(1,En.mk 0 none (Obj.box (69:TypeId) [P.sl 2 0 0,P.sl 3 0 0,P.sl 4 0 0,P.sl 5 0 0,P.sl 6 0 0]))
def NR (m:List aj):Nat×En:=(0,En.mk 0 none (Obj.arr (34:TypeId) true (cP m)))
def Tz (m:List aj) (o:List az) (nh:Nat) (nl:Nat) (H:List D) (L:List D) (A:List D) (P:List D):List (Nat×En):=[NR m,NQ,Ap,NP,NN,NM,NL,Zb5 o nh nl,NK o,NJ,YN H,(11,bO L),Ty,(13,D9 A),(14,D8 P)]
def Zb4 (A:List D) (P:List D) (y:aW):List (Nat×En):=[Ty,(13,D9 A),(14,D8 P),(15,Vp y)]
def NS (np:Nat):Nat×P:=(5,P.sl 14 0 np)
def NT (na:Nat):Nat×P:=(4,P.sl 13 0 na)
def Ho:Nat×P:=(3,P.ref 7 0 0)
def Hp:Nat×P:=(2,iC)
theorem TA (m:List aj) (o:List az) (y:aW) (na np nh nl:Nat) (A P H L:List D) (i:Int) (on:Bool) (k j:Int) (post:PX×S->Prop):(bif decide (j<nb y) then bif on then bif decide ((0:Int)<=j/\j<nb y) then bif cC PR (30:TypeId) (Z9v y j) then bif yU nl L&&aN (nl+List.length (Vq y j)) 40 then bif Zj j then post (PX.normal,S.mk 140 [tB m,Hp,Ho,NT na,NS np,ZK i,vo on,vp k,(9,Pi.P.ref 15 0 0),(10,Pi.P.d (Zn j))] (NR m::NQ::Ap::NP::NN::NM::NL::(7,En.mk 0 none (Obj.box (69:TypeId) (Pi.P.sl 8 0 (eu o)::YP::Pi.P.sl 10 0 nh::Pi.P.sl 11 0 (nl+List.length (Vq y j))::YO)))::NK o::NJ::YN H::(11,En.mk 0 none (Obj.arr (106:TypeId) false (List.take nl L++Vq y j)))::Zb4 A P y)) else False else False else False else False else post (PX.exit 4,S.mk 140 (tB m::Hp::Ho::NT na::NS np::ZK i::vo on::Ny k) (Tz m o nh nl H L A P)) else post (PX.exit 4,S.mk 140 (tB m::Hp::Ho::NT na::NS np::ZK i::vo on::Ny k) (Tz m o nh nl H L A P)))=(aD [] [] 32 20 (qd1 m o y na np nh nl A P H L i on k j)) post:=by kernel_rfl
def TB:S->K (PX×S):=fun s post=> ∃m o y na np nh nl A P H L i on k,s=qd1 m o y na np nh nl A P H L i on k 0/\(y.b9.length<=200/\nl=L.length/\nl<=100000000000)/\ ∀bt L',cQ on y nl L bt L'->post (.exit 4,Tx m o na np nh bt A P H L' i on k)
def Zbc (i:Int) (on:Bool) (k:Int):List (Nat×P):=[ZK i,vo on,vp k,(9,P.ref 15 0 0),(10,P.d Z7)]
def Zbi (bY:List aj) (bj:Nat) (bk:Nat) (aG:Int) (aM:Bool) (bS:Int):List (Nat×P):=tB bY::Hp::Ho::NT bj::NS bk::Zbc aG aM bS
def Zbj (bY:List aj) (bj:Nat) (bk:Nat) (aG:Int) (aM:Bool) (bS:Int) (aP:List az) (bm:Nat) (aT:Nat) (dp:List D) (cb:List D) (dm:List D) (dn:List D) (y:aW):S:=S.mk 140 (Zbi bY bj bk aG aM bS) (NR bY::NQ::Ap::NP::NN::NM::NL::Zb5 aP bm aT::NK aP::NJ::YN dp::(11,bO cb)::Zb4 dm dn y)
def Zb9 (m:List aj) (i:Int) (k:Int):D:=D.int .i64 (D.ah (D.aq (lv m i k) 3))
def Zb8 (m:List aj) (i:Int) (k:Int):D:=D.int .i64 (D.ah (D.aq (lv m i k) 2))
def Zb7 (m:List aj) (i:Int) (k:Int):D:=D.int .i64 (D.ah (D.aq (lv m i k) 1))
def Zbg (m:List aj) (i:Int) (k:Int):List (Nat×En):=[(15,En.mk 0 none (Obj.box (54:TypeId) [P.d (D.int .i64 (Hk m i k)),P.d (Zb7 m i k),P.d (Zb8 m i k),P.d (Zb9 m i k),P.d (D.int .i64 (D.ah (D.aq (lv m i k) 4))),P.d (D.int .i64 (D.ah (D.aq (lv m i k) 5))),P.d (D.int .i64 (D.ah (D.aq (lv m i k) 6))),P.d (D.str (D.eI (D.aq (lv m i k) 7))),P.d (D.bool (D.e7 (D.aq (lv m i k) 8))),P.d (D.sl 2 (D.e8 (D.aq (lv m i k) 9))),P.d (D.int .i64 (D.ah (D.aq (lv m i k) 10))),P.d (D.int .i64 (D.ah (D.aq (lv m i k) 11))),P.d (D.int .i64 (D.ah (D.aq (lv m i k) 12))),P.d (D.int .i64 (D.ah (D.aq (lv m i k) 13))),P.d (D.int .i64 (D.ah (D.aq (lv m i k) 14))),P.d (D.int .i64 (D.ah (D.aq (lv m i k) 15))),P.d (D.str (D.eI (D.aq (lv m i k) 16))),P.d (D.sl 3 (D.e8 (D.aq (lv m i k) 17)))]))]
def Zbm (m:List aj) (na:Nat) (np:Nat) (i:Int) (on:Bool) (k:Int) (o:List az) (nh:Nat) (nl:Nat) (H:List D) (L:List D) (A:List D) (P:List D) (post:PX×S->Prop):Prop:= ∃(bY:List aj) (aP:List az) (y:aW) (bj:Nat) (bk:Nat) (bm:Nat) (aT:Nat) (dm:List D) (dn:List D) (dp:List D) (cb:List D) (aG:Int) (aM:Bool) (bS:Int),S.mk 140 (Zbi m na np i on k) (NR m::NQ::Ap::NP::NN::NM::NL::Zb5 o nh nl::NK o::NJ::YN H::(11,bO L)::Ty::(13,D9 A)::(14,D8 P)::Zbg m i k)=Zbj bY bj bk aG aM bS aP bm aT dp cb dm dn y/\qY y aT cb/\ ∀(bt:Nat) (L':List D),cQ aM y aT cb bt L'->bif Zj bS then post (PX.normal,S.mk 140 (tB bY::Hp::Ho::NT bj::NS bk::ZK aG::vo aM::qz bS) (Tz bY aP bm bt dp L' dm dn)) else False
def Zbb (m:List aj) (i:Int) (k:Int):List D:=[D.agg [Zb7 m i k,Zb8 m i k,Zb9 m i k,oS m i,oE m i]]
def Zbf (nh:Nat) (H:List D) (m:List aj) (i:Int) (k:Int):Nat×En:=(10,En.mk 0 none (Obj.arr (106:TypeId) false (List.take nh H++Zbb m i k)))
def Zbe (o:List az) (nh:Nat) (m:List aj) (i:Int) (k:Int) (nl:Nat):Nat×En:=(7,En.mk 0 none (Obj.box (69:TypeId) (P.sl 8 0 (eu o)::YP::P.sl 10 0 (nh+List.length (Zbb m i k))::P.sl 11 0 nl::YO)))
noncomputable def Zbn (on:Bool) (m:List aj) (i:Int) (k:Int) (nh:Nat) (H:List D) (na:Nat) (np:Nat) (o:List az) (nl:Nat) (L:List D) (A:List D) (P:List D) (post:PX×S->Prop):Prop:=bif on then bif Hk m i k !=(2:Int) then bif vO i m then bif tC i m then bif ep m i then bif yU nh H&&aN (nh+List.length (Zbb m i k)) 40 then∃(bY:List aj) (aP:List az) (y:aW) (bj:Nat) (bk:Nat) (bm:Nat) (aT:Nat) (dm:List D) (dn:List D) (dp:List D) (cb:List D) (aG:Int) (aM:Bool) (bS:Int),S.mk 140 (Zbi m na np i on k) (NR m::NQ::Ap::NP::NN::NM::NL::Zbe o nh m i k nl::NK o::NJ::Zbf nh H m i k::(11,bO L)::Ty::(13,D9 A)::(14,D8 P)::Zbg m i k)=Zbj bY bj bk aG aM bS aP bm aT dp cb dm dn y/\qY y aT cb/\ ∀(bt:Nat) (L':List D),cQ aM y aT cb bt L'->bif Zj bS then post (PX.normal,S.mk 140 (tB bY::Hp::Ho::NT bj::NS bk::ZK aG::vo aM::qz bS) (Tz bY aP bm bt dp L' dm dn)) else False else False else False else False else False else Zbm m na np i on k o nh nl H L A P post else Zbm m na np i on k o nh nl H L A P post
def Zba (m:List aj) (i:Int) (k:Int):List D:=[D.agg [Zb7 m i k,Zb8 m i k,Zb9 m i k,D.int .i64 (D.ah (D.aq (lv m i k) 4)),D.int .i64 (D.ah (D.aq (lv m i k) 5)),D.int .i64 (D.ah (D.aq (lv m i k) 6)),D.str (D.eI (D.aq (lv m i k) 7)),D.bool (D.e7 (D.aq (lv m i k) 8))]]
def Zbh (L:List D) (na:Nat) (A:List D) (m:List aj) (i:Int) (k:Int) (np:Nat) (P:List D):List (Nat×En):=(11,bO L)::Ty::(13,En.mk 0 none (Obj.arr (50:TypeId) false (List.take na A++[D.agg (oS m i::oE m i::ZE k)])))::(14,En.mk 0 none (Obj.arr (104:TypeId) false (List.take np P++Zba m i k)))::Zbg m i k
def Zbd (m:List aj) (na:Nat) (i:Int) (k:Int) (np:Nat) (on:Bool):List (Nat×P):=tB m::Hp::Ho::(4,P.sl 13 0 (na+List.length [D.agg (oS m i::oE m i::ZE k)]))::(5,P.sl 14 0 (np+List.length (Zba m i k)))::Zbc i on k
def Zbk (m:List aj) (na:Nat) (i:Int) (k:Int) (np:Nat) (on:Bool) (o:List az) (nh:Nat) (nl:Nat) (H:List D) (L:List D) (A:List D) (P:List D) (post:PX×S->Prop):Prop:= ∃(bY:List aj) (aP:List az) (y:aW) (bj:Nat) (bk:Nat) (bm:Nat) (aT:Nat) (dm:List D) (dn:List D) (dp:List D) (cb:List D) (aG:Int) (aM:Bool) (bS:Int),S.mk 140 (Zbd m na i k np on) (NR m::NQ::Ap::NP::NN::NM::NL::Zb5 o nh nl::NK o::NJ::YN H::Zbh L na A m i k np P)=Zbj bY bj bk aG aM bS aP bm aT dp cb dm dn y/\qY y aT cb/\ ∀(bt:Nat) (L':List D),cQ aM y aT cb bt L'->bif Zj bS then post (PX.normal,S.mk 140 (tB bY::Hp::Ho::NT bj::NS bk::ZK aG::vo aM::qz bS) (Tz bY aP bm bt dp L' dm dn)) else False
noncomputable def Zbl (i:Int) (m:List aj) (na:Nat) (A:List D) (k:Int) (np:Nat) (P:List D) (on:Bool) (nh:Nat) (H:List D) (o:List az) (nl:Nat) (L:List D) (post:PX×S->Prop):Prop:=bif vO i m then bif tC i m then bif ep m i then bif yU na A&&aN (na+List.length [D.agg (oS m i::oE m i::ZE k)]) 24 then bif yU np P&&aN (np+List.length (Zba m i k)) 72 then bif on then bif Hk m i k !=(2:Int) then bif vO i m then bif tC i m then bif ep m i then bif yU nh H&&aN (nh+List.length (Zbb m i k)) 40 then∃(bY:List aj) (aP:List az) (y:aW) (bj:Nat) (bk:Nat) (bm:Nat) (aT:Nat) (dm:List D) (dn:List D) (dp:List D) (cb:List D) (aG:Int) (aM:Bool) (bS:Int),S.mk 140 (Zbd m na i k np on) (NR m::NQ::Ap::NP::NN::NM::NL::Zbe o nh m i k nl::NK o::NJ::Zbf nh H m i k::Zbh L na A m i k np P)=Zbj bY bj bk aG aM bS aP bm aT dp cb dm dn y/\qY y aT cb/\ ∀(bt:Nat) (L':List D),cQ aM y aT cb bt L'->bif Zj bS then post (PX.normal,S.mk 140 (tB bY::Hp::Ho::NT bj::NS bk::ZK aG::vo aM::qz bS) (Tz bY aP bm bt dp L' dm dn)) else False else False else False else False else False else Zbk m na i k np on o nh nl H L A P post else Zbk m na i k np on o nh nl H L A P post else False else False else False else False else False
theorem TC (m:List aj) (o:List az) (na np nh nl:Nat) (A P H L:List D) (i:Int) (on:Bool) (k:Int) (post:PX×S->Prop):(bif vO i m then bif tC i m then bif ep m i then bif decide (k<NI m i) then bif vO i m then bif tC i m then bif ep m i then bif Hm k m i then bif Hl m i k then bif Hk m i k==(0:Int) then Zbl i m na A k np P on nh H o nl L post else bif Hk m i k==(1:Int) then bif on then Zbl i m na A k np P on nh H o nl L post else Zbn on m i k nh H na np o nl L A P post else Zbn on m i k nh H na np o nl L A P post else False else False else False else False else False else post (PX.exit 2,S.mk 140 (tB m::Hp::Ho::NT na::NS np::Jy i) (Tz m o nh nl H L A P)) else False else False else False)=(aD [] [(20,ae (aL 32 20) TB)] 32 11 (Tx m o na np nh nl A P H L i on k)) post:=by kernel_rfl
def TD:S->K (PX×S):=fun s post=> ∃(m:List aj) (o:List az) (na np nh nl:Nat) (A P H L:List D) (i:Int) (on:Bool) (t:Tl) (N:Nat) (hi:i.toNat<m.length),s=Tx m o na np nh nl A P H L i on 0/\(qZ t na np nh nl A P H L/\uv N t/\N<=300000000/\(0<=i/\m[i.toNat].ops.length<=200/\ ∀y∈m[i.toNat].ops,y.b9.length<=200))/\
 ∀oI oJ oK bt A' P' H' L',qZ (Gg on m[i.toNat].s m[i.toNat].ops t) oI oJ oK bt A' P' H' L'->post (.exit 2,of7 m o oI oJ oK bt A' P' H' L' i)
theorem qbe (m:List aj) (o:List az) (na np nh nl:Nat) (A P H L:List D) (i:Int) (post:PX×S->Prop):(bif decide (i<(↑(List.length m):Int)) then bif decide ((0:Int)<=i/\i<(↑(List.length m):Int)) then bif decide (Int.toNat i<List.length (List.map aU m)) then bif cC PR (34:TypeId) (D.nth (List.map aU m) (Int.toNat i)) then∃(l:List az),∃(x:az),[Pi.P.sl 0 0 (List.length o),Pi.P.d (D.agg [D.int IntKind.i64 (D.ah (D.aq (D.nth (List.map aU m) (Int.toNat i)) 0)),D.int IntKind.i64 (D.ah (D.aq (D.nth (List.map aU m) (Int.toNat i)) 1))])]=[Pi.P.sl 0 0 (List.length l),Pi.P.d (D.agg [D.int IntKind.i64 (Prod.fst x),D.int IntKind.i64 (Prod.snd x)])]/\[(0,En.mk 0 (some 0) (Obj.arr 30 false (List.map bh o)))]=[(0,En.mk 0 (some 0) (Obj.arr 30 false (List.map bh l)))]/\List.length l<=1000000/\ ∀(b:Bool),b=decide (x∈l)-> ∃(bY:List aj),∃(aP:List az),∃(bj:Nat),∃(bk:Nat),∃(bm:Nat),∃(aT:Nat),∃(dm:List D),∃(dn:List D),∃(dp:List D),∃(cb:List D),∃(aG:Int),∃(on:Bool),∃(t:Tl),∃(N:Nat),∃(hi:Int.toNat aG<List.length bY),S.mk 140 [(0,Pi.P.sl 0 0 (List.length m)),(2,Pi.P.ref 1 0 0),(3,Pi.P.ref 7 0 0),(4,Pi.P.sl 13 0 na),(5,Pi.P.sl 14 0 np),(6,Pi.P.d (D.int IntKind.i64 i)),(7,Pi.P.d (D.bool b)),(8,Pi.P.d (D.int IntKind.i64 (0:Int)))] [(0,En.mk 0 none (Obj.arr 34 true (List.map aU m))),(1,En.mk 0 none (Obj.box 69 [Pi.P.sl 2 0 0,Pi.P.sl 3 0 0,Pi.P.sl 4 0 0,Pi.P.sl 5 0 0,Pi.P.sl 6 0 0])),(2,En.mk 0 none (Obj.arr 30 false [])),(3,En.mk 0 none (Obj.arr 104 false [])),(4,En.mk 0 none (Obj.arr 106 false [])),(5,En.mk 0 none (Obj.arr 106 false [])),(6,En.mk 0 none (Obj.arr 72 false [])),(7,En.mk 0 none (Obj.box 69 [Pi.P.sl 8 0 (List.length o),Pi.P.sl 9 0 0,Pi.P.sl 10 0 nh,Pi.P.sl 11 0 nl,Pi.P.sl 12 0 0])),(8,En.mk 0 none (Obj.arr 30 false (List.map bh l))),(9,En.mk 0 none (Obj.arr 104 false [])),(10,En.mk 0 none (Obj.arr 106 false H)),(11,En.mk 0 none (Obj.arr 106 false L)),(12,En.mk 0 none (Obj.arr 72 false [])),(13,En.mk 0 none (Obj.arr 50 false A)),(14,En.mk 0 none (Obj.arr 104 false P))]=S.mk 140 [(0,Pi.P.sl 0 0 (List.length bY)),(2,Pi.P.ref 1 0 0),(3,Pi.P.ref 7 0 0),(4,Pi.P.sl 13 0 bj),(5,Pi.P.sl 14 0 bk),(6,Pi.P.d (D.int IntKind.i64 aG)),(7,Pi.P.d (D.bool on)),(8,Pi.P.d (D.int IntKind.i64 (0:Int)))] [(0,En.mk 0 none (Obj.arr 34 true (List.map aU bY))),(1,En.mk 0 none (Obj.box 69 [Pi.P.sl 2 0 0,Pi.P.sl 3 0 0,Pi.P.sl 4 0 0,Pi.P.sl 5 0 0,Pi.P.sl 6 0 0])),(2,En.mk 0 none (Obj.arr 30 false [])),(3,En.mk 0 none (Obj.arr 104 false [])),(4,En.mk 0 none (Obj.arr 106 false [])),(5,En.mk 0 none (Obj.arr 106 false [])),(6,En.mk 0 none (Obj.arr 72 false [])),(7,En.mk 0 none (Obj.box 69 [Pi.P.sl 8 0 (List.length aP),Pi.P.sl 9 0 0,Pi.P.sl 10 0 bm,Pi.P.sl 11 0 aT,Pi.P.sl 12 0 0])),(8,En.mk 0 none (Obj.arr 30 false (List.map bh aP))),(9,En.mk 0 none (Obj.arr 104 false [])),(10,En.mk 0 none (Obj.arr 106 false dp)),(11,En.mk 0 none (Obj.arr 106 false cb)),(12,En.mk 0 none (Obj.arr 72 false [])),(13,En.mk 0 none (Obj.arr 50 false dm)),(14,En.mk 0 none (Obj.arr 104 false dn))]/\(qZ t bj bk bm aT dm dn dp cb/\uv N t/\N<=300000000/\(0:Int)<=aG/\List.length (aj.ops bY[Int.toNat aG])<=200/\ ∀(y:aW),y∈aj.ops bY[Int.toNat aG]->List.length (aW.b9 y)<=200)/\ ∀(oI oJ oK bt:Nat) (A' P' H' L':List D),qZ (Gg on (aj.s bY[Int.toNat aG]) (aj.ops bY[Int.toNat aG]) t) oI oJ oK bt A' P' H' L'->bif decide ((-9223372036854775808:Int)<=aG+(1:Int)/\aG+(1:Int)<=(9223372036854775807:Int)) then post (PX.normal,S.mk 140 [(0,Pi.P.sl 0 0 (List.length bY)),(2,Pi.P.ref 1 0 0),(3,Pi.P.ref 7 0 0),(4,Pi.P.sl 13 0 oI),(5,Pi.P.sl 14 0 oJ),(6,Pi.P.d (D.int IntKind.i64 (aG+(1:Int))))] [(0,En.mk 0 none (Obj.arr 34 true (List.map aU bY))),(1,En.mk 0 none (Obj.box 69 [Pi.P.sl 2 0 0,Pi.P.sl 3 0 0,Pi.P.sl 4 0 0,Pi.P.sl 5 0 0,Pi.P.sl 6 0 0])),(2,En.mk 0 none (Obj.arr 30 false [])),(3,En.mk 0 none (Obj.arr 104 false [])),(4,En.mk 0 none (Obj.arr 106 false [])),(5,En.mk 0 none (Obj.arr 106 false [])),(6,En.mk 0 none (Obj.arr 72 false [])),(7,En.mk 0 none (Obj.box 69 [Pi.P.sl 8 0 (List.length aP),Pi.P.sl 9 0 0,Pi.P.sl 10 0 oK,Pi.P.sl 11 0 bt,Pi.P.sl 12 0 0])),(8,En.mk 0 none (Obj.arr 30 false (List.map bh aP))),(9,En.mk 0 none (Obj.arr 104 false [])),(10,En.mk 0 none (Obj.arr 106 false H')),(11,En.mk 0 none (Obj.arr 106 false L')),(12,En.mk 0 none (Obj.arr 72 false [])),(13,En.mk 0 none (Obj.arr 50 false A')),(14,En.mk 0 none (Obj.arr 104 false P'))]) else False else False else False else False else post (PX.exit 0,S.mk 140 [(0,Pi.P.sl 0 0 (List.length m)),(2,Pi.P.ref 1 0 0),(3,Pi.P.ref 7 0 0),(4,Pi.P.sl 13 0 na),(5,Pi.P.sl 14 0 np)] [(0,En.mk 0 none (Obj.arr 34 true (List.map aU m))),(1,En.mk 0 none (Obj.box 69 [Pi.P.sl 2 0 0,Pi.P.sl 3 0 0,Pi.P.sl 4 0 0,Pi.P.sl 5 0 0,Pi.P.sl 6 0 0])),(2,En.mk 0 none (Obj.arr 30 false [])),(3,En.mk 0 none (Obj.arr 104 false [])),(4,En.mk 0 none (Obj.arr 106 false [])),(5,En.mk 0 none (Obj.arr 106 false [])),(6,En.mk 0 none (Obj.arr 72 false [])),(7,En.mk 0 none (Obj.box 69 [Pi.P.sl 8 0 (List.length o),Pi.P.sl 9 0 0,Pi.P.sl 10 0 nh,Pi.P.sl 11 0 nl,Pi.P.sl 12 0 0])),(8,En.mk 0 none (Obj.arr 30 false (List.map bh o))),(9,En.mk 0 none (Obj.arr 104 false [])),(10,En.mk 0 none (Obj.arr 106 false H)),(11,En.mk 0 none (Obj.arr 106 false L)),(12,En.mk 0 none (Obj.arr 72 false [])),(13,En.mk 0 none (Obj.arr 50 false A)),(14,En.mk 0 none (Obj.arr 104 false P))]))=(aD [(42,Gs)] [(11,ae (aL 32 11) TD)] 32 7 (of7 m o na np nh nl A P H L i)) post:=by kernel_rfl
abbrev OfB:=Nat×Nat×Nat×Nat×List D×List D×List D×List D
structure OfP where
 m:List aj
 o:List az
 y:aW
 na:Nat
 np:Nat
 nh:Nat
 A:List D
 P:List D
 H:List D
 i:Int
 on:Bool
 k:Int
 L:List D
structure OfQ where
 m:List aj
 o:List az
 g:aj
 i:Int
 on:Bool
 t:Tl
 N:Nat
theorem TE {x:Pl} {g:aj} {k:Nat} (h:k<g.ops.length):(g.ops.take (k+1)).flatMap (Am x)=(g.ops.take k).flatMap (Am x)++Am x g.ops[k]:=by
 rw[zag h,zbF]
 simp
theorem TG {x:Pl} {l:List aj} {j:Nat} (h:j<l.length):D5 (l.take (j+1)) x=D5 (l.take j) x++mdG x l[j]:=by
 unfold D5
 rw[zag h,zbF]
 simp
theorem TH {l:List aj} {p:List Pl} {i:Nat} (h:i<p.length):Hh l (p.take (i+1))=Hh l (p.take i)++D5 l p[i]:=by
 unfold Hh
 rw[zag h,zbF]
 simp
theorem Lx (x:Pl): ∀l:List aW,(l.flatMap (Am x)).length<=l.length
 | []=>by simp
 |a::r=>by
  have h1:=Lx x r
  have h2:=Ln x a
  rw[zcq,zan,zap]
  omega
section
variable {X:XF}
theorem YQ:LD X 54 9 (ae (aL 54 9) qdY):=LD.idx (H:=[]) (hk:=[]) (by kernel_rfl) (by kernel_rfl) .nil .nil
 (A:=List aj×List Pl×List Pl×Int×Int×Pl×aj) (B:=List Pl) (fun a o k=>md9 a.1 a.2.1 o a.2.2.2.1 a.2.2.2.2.1 k) (fun a=>a.2.2.2.2.2.2.ops.length)
 (fun a k o=>((0<=a.2.2.2.1/\a.2.2.2.1<a.2.1.length/\0<=a.2.2.2.2.1/\a.2.2.2.2.1<a.1.length)/\D.nth (a.2.1.map bI) a.2.2.2.1.toNat=bI a.2.2.2.2.2.1/\D.nth (a.1.map aU) a.2.2.2.2.1.toNat=aU a.2.2.2.2.2.2/\a.2.2.1.length<=1000/\a.2.2.2.2.2.2.ops.length<=200)/\o=a.2.2.1++(a.2.2.2.2.2.2.ops.take k).flatMap (Am a.2.2.2.2.2.1))
 (fun a z=>z=(.exit 4,md6 a.1 a.2.1 (a.2.2.1++mdG a.2.2.2.2.2.1 a.2.2.2.2.2.2) a.2.2.2.1 a.2.2.2.2.1))
 (by
  rintro⟨l,p,o0,i,j,x,g⟩ o k post h0 tA dO ⟨⟨hb,hx,hg,lX,Aq⟩,ho⟩ hn br
  dsimp only at*
  (rw[<-qbb];delta im Ow He jR s6 Zn qz Zt rR ZK lB Eb cP cX gi Za Z9 Zj ZaI Zg gQ lv oh Nl Nn Np ZaH r5 qy Gk Hk Hl NI Hm ep fC ji)
  rw[hx,hg]
  have u6:D.e8 (D.aq (aU g) 6)=g.ops.map eH:=rfl
  have e1:D.nth (g.ops.map eH) k.toNat=eH g.ops[k.toNat]:=ay _ _ _ dO
  have lL:=TE (x:=x) dO
  have hlen:=Lx x (g.ops.take k.toNat)
  rw[zay] at hlen
  have qjg:o.length<=1200:=by rw[ho,zan];omega
  rw[u6,e1]
  generalize g.ops[k.toNat]=y at*
  have u0:D.ah (D.aq (eH y) 0)=y.kind:=rfl
  have v:(D.ah (D.aq (eH y) 1)==D.ah (D.aq (bI x) 0)&&(D.ah (D.aq (eH y) 2)==D.ah (D.aq (bI x) 1)&&true)&&(D.ah (D.aq (eH y) 3)==D.ah (D.aq (bI x) 2)&&true))=(y.node==x.1):=DX y.node x.1
  have Kw:0<=j/\j<((l.map aU).length:Int):=by rw[zaa];exact⟨hb.2.2.1,hb.2.2.2⟩
  have fB:0<=i/\i<((p.map bI).length:Int):=by rw[zaa];exact⟨hb.1,hb.2.1⟩
  have JG:0<=k/\k<((g.ops.map eH).length:Int):=by rw[zaa];exact⟨h0,tA⟩
  have p9:=ft g
  have LV:=hY x
  have sr:=I2 y
  rw[u0,v]
  refine ak Kw (ao p9 (bJ JG.2 (ak Kw (ao p9 (ak JG (ao sr ?_))))))
  have bZ: ¬(y.kind=0/\y.node=x.1)->o0++(g.ops.take (k.toNat+1)).flatMap (Am x)=o:=fun h=>by
   rw[lL,ho]
   have:Am x y=[]:=by unfold Am;rw[zam h]
   rw[this,zbj]
  refine ax (fun hk=>ak Kw (ao p9 (ak JG (ao sr (ak fB (ao LV (ax (fun zY=> ?_) fun zY=>ak (by omega) (hn o ⟨⟨hb,hx,hg,lX,Aq⟩,(bZ (fun hh=>by rw[hh.2] at zY;simp at zY)).symm⟩)))))))) fun hk=>ak (by omega) (hn o ⟨⟨hb,hx,hg,lX,Aq⟩,(bZ (fun hh=>by rw[hh.1] at hk;simp at hk)).symm⟩)
  have dZ:o0++(g.ops.take (k.toNat+1)).flatMap (Am x)=o++[(x.1,x.2.1,x.2.2.1,y.dir)]:=by
   rw[lL,ho,zaY]
   have:Am x y=[(x.1,x.2.1,x.2.2.1,y.dir)]:=by unfold Am;rw[zao ⟨by simpa using hk,by simpa using zY⟩]
   rw[this]
  have t1:List.take o.length (o.map bI)++[bI (x.1,x.2.1,x.2.2.1,y.dir)]=(o++[(x.1,x.2.1,x.2.2.1,y.dir)]).map bI:=cq bI o _
  have hy:=hn (o++[(x.1,x.2.1,x.2.2.1,y.dir)]) ⟨⟨hb,hx,hg,lX,Aq⟩,dZ.symm⟩
  simp only[md9,pT,zan] at hy
  rw[<-t1] at hy
  refine ak fB (ao LV (ak Kw (ao p9 (ak JG (ao sr (ao (ec rfl (by rw[zaa]) (by omega) (by decide)) (ak (by omega) ?_)))))))
  exact hy)
 (by
  rintro⟨l,p,o0,i,j,x,g⟩ o k post hk ⟨⟨hb,hx,hg,lX,Aq⟩,ho⟩ br
  dsimp only at*
  (rw[<-qbb];delta im Ow He jR s6 Zn qz Zt rR ZK lB Eb cP cX gi Za Z9 Zj ZaI Zg gQ lv oh Nl Nn Np ZaH r5 qy Gk Hk Hl NI Hm ep fC ji)
  rw[hx,hg]
  have u6:D.e8 (D.aq (aU g) 6)=g.ops.map eH:=rfl
  rw[u6]
  have Kw:0<=j/\j<((l.map aU).length:Int):=by rw[zaa];exact⟨hb.2.2.1,hb.2.2.2⟩
  refine ak Kw (ao (ft g) (lK (by rw[zaa];omega) (br _ (fun h=>by cases h) ?_)))
  rw[ho,zak]
  rfl)
 (by
  rintro s post ⟨l,p,o,i,j,hi,hj,rfl,⟨h1,h2,h3,h4⟩,hp⟩
  refine⟨(l,p,o,i,j,p[i.toNat],l[j.toNat]),o,rfl,⟨⟨⟨h1.1,by show i<(p.length:Int);omega,h1.2.1,by show j<(l.length:Int);omega⟩,ay _ _ _ hi,ay _ _ _ hj,h3,h4⟩,by simp⟩,?_⟩
  rintro z rfl
  exact hp _ rfl)
theorem YR:LD X 54 6 (ae (aL 54 6) qdZ):=LD.idx (H:=[]) (hk:=[(9,ae (aL 54 9) qdY)]) (by kernel_rfl) (by kernel_rfl) .nil (.cons YQ .nil)
 (A:=List aj×List Pl×List Pl×Int×Pl) (B:=List Pl) (fun a o j=>md6 a.1 a.2.1 o a.2.2.2.1 j) (fun a=>a.1.length)
 (fun a j o=>((0<=a.2.2.2.1/\a.2.1.length<=1000)/\(∃hi:a.2.2.2.1.toNat<a.2.1.length,a.2.1[a.2.2.2.1.toNat]=a.2.2.2.2)/\a.1.length<=1000000/\a.2.2.1.length<=999/\(∀g∈a.1,cx g=true)/\(a.1.map (·.s)).Nodup)/\o=a.2.2.1++D5 (a.1.take j) a.2.2.2.2)
 (fun a z=>z=(.exit 2,md3 a.1 a.2.1 (a.2.2.1++D5 a.1 a.2.2.2.2) a.2.2.2.1))
 (by
  rintro⟨l,p,o0,i,x⟩ o j post h0 Ex Bx ⟨⟨h1,⟨hi,hx⟩,h3,h4,h5,h6⟩,ho⟩ hn br
  dsimp only at*
  rw[<-qbc]
  have lL:=TG (x:=x) Bx
  have h7:(D5 (l.take j.toNat) x).length<=1:=(Lp x (fun g hg=>h5 g (zbp hg)) (h6.sublist ((zcV _ _).map _))).1
  have lX:o.length<=1000:=by rw[ho,zan];omega
  refine bJ (by rw[zaa];exact Ex) ⟨l,p,o,i,j,hi,Bx,rfl,⟨⟨h1.1,h0,h1.2⟩,h3,lX,s5 (h5 _ (zas Bx))⟩,fun o' gf=>ak (by omega) (hn o' ⟨⟨h1,⟨hi,hx⟩,h3,h4,h5,h6⟩,?_⟩)⟩
  rw[gf,ho,lL,hx,zaY])
 (by
  rintro⟨l,p,o0,i,x⟩ o j post hj ⟨hc,ho⟩ br
  dsimp only at*
  rw[<-qbc]
  refine lK (by rw[zaa];omega) (br _ (fun h=>by cases h) ?_)
  rw[ho,zak])
 (by
  rintro s post ⟨l,p,o,i,hi,rfl,⟨h1,h2,h3,h4,h5⟩,hp⟩
  refine⟨(l,p,o,i,p[i.toNat]),o,rfl,⟨⟨h1,⟨hi,rfl⟩,h2,h3,h4,h5⟩,by simp[D5]⟩,?_⟩
  rintro z rfl
  exact hp _ rfl)
theorem YS:LD X 54 3 (ae (aL 54 3) qd0):=LD.idx (H:=[]) (hk:=[(6,ae (aL 54 6) qdZ)]) (by kernel_rfl) (by kernel_rfl) .nil (.cons YR .nil)
 (A:=List aj×List Pl) (B:=List Pl) (fun a o i=>md3 a.1 a.2 o i) (fun a=>a.2.length)
 (fun a i o=>(a.2.length<=1000/\a.1.length<=1000000/\(∀g∈a.1,cx g=true)/\(a.1.map (·.s)).Nodup)/\o=Hh a.1 (a.2.take i))
 (fun a z=>z=(.exit 0,⟨78,[(5,.sl 0 0 (Hh a.1 a.2).length)],[(0,⟨0,none,pT false (Hh a.1 a.2)⟩)]⟩))
 (by
  rintro⟨l,p⟩ o i post h0 bN bg ⟨⟨h1,h2,h3,h4⟩,ho⟩ hn br
  dsimp only at*
  rw[<-qbd]
  have lL:=TH (l:=l) bg
  have h7:=Dz h3 h4 (p.take i.toNat)
  rw[zay,<-ho] at h7
  refine bJ (by rw[zaa];exact bN) ⟨l,p,o,i,bg,rfl,⟨⟨h0,h1⟩,h2,by omega,h3,h4⟩,fun o' gf=>ak (by omega) (hn o' ⟨⟨h1,h2,h3,h4⟩,?_⟩)⟩
  rw[gf,ho,lL])
 (by
  rintro⟨l,p⟩ o i post hi ⟨hc,ho⟩ br
  dsimp only at*
  rw[<-qbd]
  refine lK (by rw[zaa];omega) (br _ (fun h=>by cases h) ?_)
  rw[ho,zak])
 (by
  rintro s post ⟨l,p,rfl,hc,hp⟩
  refine⟨(l,p),[],rfl,⟨hc,by simp[Hh]⟩,?_⟩
  rintro z rfl
  exact hp _ rfl)
theorem qd2:FD X 54 Tw:=FD.mk (H:=[]) (hk:=[(3,ae (aL 54 3) qd0)]) (by kernel_rfl) .nil (.cons YS .nil) (by
 intro ps R post hh
 obtain⟨l,p,rfl,rfl,hc,hp⟩:=hh
 (rw[<-qiF];delta im Ow He jR s6 ZaK fu mx ZaL zs Z7 Js ZQ SL lB Eb cP cX gi ZaJ)
 exact⟨l,p,rfl,hc,fun o ho=>hp o ho⟩)
theorem TI:LD X 32 20 (ae (aL 32 20) TB):=LD.idx (H:=[]) (hk:=[]) (by kernel_rfl) (by kernel_rfl) .nil .nil
 (A:=OfP) (B:=Nat×List D) (fun a b j=>qd1 a.m a.o a.y a.na a.np a.nh b.1 a.A a.P a.H b.2 a.i a.on a.k j) (fun a=>a.y.b9.length)
 (fun a j b=>(a.y.b9.length<=200/\a.L.length<=100000000000)/\b.1=b.2.length/\b.2=a.L++(if a.on=true then(a.y.b9.take j).map (fun s=>jz (a.y.node,s)) else []))
 (fun a x=> ∃bt L',cQ a.on a.y a.L.length a.L bt L'/\x=(.exit 4,Tx a.m a.o a.na a.np a.nh bt a.A a.P a.H L' a.i a.on a.k))
 (by
  rintro a ⟨nl,L⟩ j post h0 Ex Bx ⟨⟨hd,hL⟩,rZ,JE⟩ hn ho
  dsimp only at*
  (rw[<-TA];delta D8 D9 Vk Ty bO YN zs NJ eK oH NK YO YP eu Zb5 NL Hn NM NN NP vU Ap NQ cP NR Tz Zt vp Ny Ra vG vH vI zg z7 zh z8 Aa lj zi zj zk zl zm ug uh ui vJ Vp Zb4 Zn gh vo ZK NS NT Ho iC Hp fu oF tB Za Z9 Zj Zg Z9v Vq yU nb)
  have e1:D.nth (a.y.b9.map bh) j.toNat=bh a.y.b9[j.toNat]:=ay _ _ _ Bx
  have lL:(a.y.b9.take (j.toNat+1))=a.y.b9.take j.toNat++[a.y.b9[j.toNat]]:=zag Bx
  rw[e1]
  generalize a.y.b9[j.toNat]=z at*
  have hLl:L.length<=a.L.length+200:=by
   rw[JE,zan]
   split
   ·rw[zaa,zay];omega
   ·simp
  have Kw:j<((a.y.b9.map bh).length:Int):=by rw[zaa];exact Ex
  refine bJ Kw (ax (fun Hj=>ak ⟨h0,Kw⟩ (ao (jP _) (ao (ec rZ rfl (by omega) (by decide)) (ak (by omega) (hn (nl+1,List.take nl L++[jz (a.y.node,z)]) ⟨⟨hd,hL⟩,?_,?_⟩))))) fun qdP=>ho _ (fun h=>by cases h) ⟨nl,L,⟨rZ,?_⟩,rfl⟩)
  ·simp[rZ]
  ·rw[Hj,zao rfl] at JE⊢
   rw[lL,rZ,zak,JE,zaB,zaY]
   rfl
  ·rw[qdP] at JE⊢
   simpa using JE)
 (by
  rintro a ⟨nl,L⟩ j post hj ⟨⟨hd,hL⟩,rZ,JE⟩ ho
  dsimp only at*
  (rw[<-TA];delta D8 D9 Vk Ty bO YN zs NJ eK oH NK YO YP eu Zb5 NL Hn NM NN NP vU Ap NQ cP NR Tz Zt vp Ny Ra vG vH vI zg z7 zh z8 Aa lj zi zj zk zl zm ug uh ui vJ Vp Zb4 Zn gh vo ZK NS NT Ho iC Hp fu oF tB Za Z9 Zj Zg Z9v Vq yU nb)
  refine lK (by rw[zaa];omega) (ho _ (fun h=>by cases h) ⟨nl,L,⟨rZ,?_⟩,rfl⟩)
  rw[JE,zak]
  cases a.on
  ·rfl
  ·simp[Gy,zb4])
 (by
  rintro s post ⟨m,o,y,na,np,nh,nl,A,P,H,L,i,on,k,rfl,⟨h1,h2,h3⟩,hp⟩
  refine⟨⟨m,o,y,na,np,nh,A,P,H,i,on,k,L⟩,(nl,L),rfl,⟨⟨h1,by rw[<-h2];exact h3⟩,h2,by simp⟩,?_⟩
  rintro z ⟨bt,L',hg,rfl⟩
  exact hp bt L' ⟨hg.1,hg.2⟩)
theorem TJ:LD X 32 11 (ae (aL 32 11) TD):=LD.idx (H:=[]) (hk:=[(20,ae (aL 32 20) TB)]) (by kernel_rfl) (by kernel_rfl) .nil (.cons TI .nil)
 (A:=OfQ) (B:=OfB) (fun a b k=>Tx a.m a.o b.1 b.2.1 b.2.2.1 b.2.2.2.1 b.2.2.2.2.1 b.2.2.2.2.2.1 b.2.2.2.2.2.2.1 b.2.2.2.2.2.2.2 a.i a.on k) (fun a=>a.g.ops.length)
 (fun a k b=>(uv a.N a.t/\a.N<=300000000/\(0<=a.i/\a.i<a.m.length/\D.nth (a.m.map aU) a.i.toNat=aU a.g)/\a.g.ops.length<=200/\ ∀y∈a.g.ops,y.b9.length<=200)/\qZ (Gg a.on a.g.s (a.g.ops.take k) a.t) b.1 b.2.1 b.2.2.1 b.2.2.2.1 b.2.2.2.2.1 b.2.2.2.2.2.1 b.2.2.2.2.2.2.1 b.2.2.2.2.2.2.2)
 (fun a x=> ∃oI oJ oK bt A' P' H' L',qZ (Gg a.on a.g.s a.g.ops a.t) oI oJ oK bt A' P' H' L'/\x=(.exit 2,of7 a.m a.o oI oJ oK bt A' P' H' L' a.i))
 (by
  rintro⟨m,o,g,i,on,t,N⟩ ⟨na,np,nh,nl,A,P,H,L⟩ k post h0 tA dO ⟨hc,hR⟩ hn ho
  dsimp only at*
  (rw[<-TC];delta D8 D9 Vk Ty bO YN zs NJ eK oH NK YO YP eu Zb5 NL Hn NM NN NP vU Ap NQ cP NR Tz Zt ZK Jy NS NT Ho iC Hp fu oF tB Zn qz gh vo Za Z9 Zj qY Ra vG vH vI zg z7 zh z8 Aa lj zi zj zk zl zm ug uh ui vJ Vp Zb4 Z7 vp Zbc Zbi Zbj Zg gQ lv Zb9 Zb8 Zb7 Hk Zbg Zbm oE oS Zbb Zbf Zbe yU ep fC tC og vO Zbn Zba ZE Zbh Zbd Zbk Zbl Hl NI Hm)
  have kq:=(hc.1.ops (on:=on) (s:=g.s) hc.2.2.2.2 k.toNat (by omega)).mono (m:=300000200) (by have:=hc.2.1;have:=hc.2.2.2.1;omega)
  rw[hc.2.2.1.2.2]
  have u6:D.e8 (D.aq (aU g) 6)=g.ops.map eH:=rfl
  have e1:D.nth (g.ops.map eH) k.toNat=eH g.ops[k.toNat]:=ay _ _ _ dO
  have kC:=yI (on:=on) (s:=g.s) (t:=t) dO
  have ic:=hc.2.2.2.2 _ (zas dO)
  have rY:((k.toNat:Nat):Int)=k:=by omega
  rw[u6,e1]
  generalize g.ops[k.toNat]=y at kC ic⊢
  generalize Gg on g.s (g.ops.take k.toNat) t=t1 at kC hR kq
  have u0:D.ah (D.aq (eH y) 0)=y.kind:=rfl
  have sr:=I2 y
  have p9:=ft g
  have fB:0<=i/\i<(m.length:Int):=⟨hc.2.2.1.1,hc.2.2.1.2.1⟩
  have Nr:i.toNat<(m.map aU).length:=by rw[zaa];omega
  have JG:0<=k/\k<((g.ops.map eH).length:Int):=by rw[zaa];exact⟨h0,tA⟩
  simp only[u0]
  refine ak fB (ak Nr (ao p9 (bJ JG.2 (ak fB (ak Nr (ao p9 (ak JG (ao sr ?_))))))))
  by_cases gm:y.kind=0
  ·rw[show(y.kind==0)=true by simp[gm],show(y.kind !=2)=true by simp[gm]]
   cases on with
   |true=>
    simp only[zbS]
    exact ak fB (ak Nr (ao p9 (ao (ec hR.na (by rw[hR.a,zaa]) (by have:=kq.2.1;omega) (by decide)) (ao (ec hR.np (by rw[hR.p,zaa]) (by have:=kq.1;have:=kq.2.1;omega) (by decide)) (ak fB (ak Nr (ao p9 (ao (ec hR.nh (by rw[hR.h,zaa]) (by have:=kq.2.2.1;omega) (by decide)) (⟨m,o,y,na+1,np+1,nh+1,nl,List.take na A++[bB (g.s.1,g.s.2,k)],List.take np P++[bI (rO y)],List.take nh H++[jz (y.node,g.s)],L,i,true,k,rfl,⟨ic,hR.nl.trans (by rw[hR.l,zaa]),by have:=hR.nl;have:=kq.2.2.2;omega⟩,fun bt L' mv=>ak (by omega) (hn (na+1,np+1,nh+1,bt,List.take na A++[bB (g.s.1,g.s.2,k)],List.take np P++[bI (rO y)],List.take nh H++[jz (y.node,g.s)],L') ⟨hc,by rw[kC];exact(hR.go rY mv).1 (by simp[fO,gm]) (by simp[gj,gm])⟩)⟩)))))))))
   |false=>
    simp only[zbS]
    exact ak fB (ak Nr (ao p9 (ao (ec hR.na (by rw[hR.a,zaa]) (by have:=kq.2.1;omega) (by decide)) (ao (ec hR.np (by rw[hR.p,zaa]) (by have:=kq.1;have:=kq.2.1;omega) (by decide)) (⟨m,o,y,na+1,np+1,nh,nl,List.take na A++[bB (g.s.1,g.s.2,k)],List.take np P++[bI (rO y)],H,L,i,false,k,rfl,⟨ic,hR.nl.trans (by rw[hR.l,zaa]),by have:=hR.nl;have:=kq.2.2.2;omega⟩,fun bt L' mv=>ak (by omega) (hn (na+1,np+1,nh,bt,List.take na A++[bB (g.s.1,g.s.2,k)],List.take np P++[bI (rO y)],H,L') ⟨hc,by rw[kC];exact(hR.go rY mv).2.1 (by simp[fO,gm]) (by simp[gj,gm])⟩)⟩)))))
  ·by_cases fW:y.kind=1
   ·rw[show(y.kind==0)=false by simp[gm],show(y.kind==1)=true by simp[fW],show(y.kind !=2)=true by simp[fW]]
    cases on with
    |true=>
     simp only[zbS,zbn]
     exact ak fB (ak Nr (ao p9 (ao (ec hR.na (by rw[hR.a,zaa]) (by have:=kq.2.1;omega) (by decide)) (ao (ec hR.np (by rw[hR.p,zaa]) (by have:=kq.1;have:=kq.2.1;omega) (by decide)) (ak fB (ak Nr (ao p9 (ao (ec hR.nh (by rw[hR.h,zaa]) (by have:=kq.2.2.1;omega) (by decide)) (⟨m,o,y,na+1,np+1,nh+1,nl,List.take na A++[bB (g.s.1,g.s.2,k)],List.take np P++[bI (rO y)],List.take nh H++[jz (y.node,g.s)],L,i,true,k,rfl,⟨ic,hR.nl.trans (by rw[hR.l,zaa]),by have:=hR.nl;have:=kq.2.2.2;omega⟩,fun bt L' mv=>ak (by omega) (hn (na+1,np+1,nh+1,bt,List.take na A++[bB (g.s.1,g.s.2,k)],List.take np P++[bI (rO y)],List.take nh H++[jz (y.node,g.s)],L') ⟨hc,by rw[kC];exact(hR.go rY mv).1 (by simp[fO,fW]) (by simp[gj,fW])⟩)⟩)))))))))
    |false=>
     simp only[zbS,zbn]
     exact⟨m,o,y,na,np,nh,nl,A,P,H,L,i,false,k,rfl,⟨ic,hR.nl.trans (by rw[hR.l,zaa]),by have:=hR.nl;have:=kq.2.2.2;omega⟩,fun bt L' mv=>ak (by omega) (hn (na,np,nh,bt,A,P,H,L') ⟨hc,by rw[kC];exact(hR.go rY mv).2.2.2 (by simp[fO,fW]) (by simp[gj,fW])⟩)⟩
   ·by_cases JH:y.kind=2
    ·rw[show(y.kind==0)=false by simp[gm],show(y.kind==1)=false by simp[fW],show(y.kind !=2)=false by simp[JH]]
     cases on with
     |true=>
      simp only[zbn]
      exact⟨m,o,y,na,np,nh,nl,A,P,H,L,i,true,k,rfl,⟨ic,hR.nl.trans (by rw[hR.l,zaa]),by have:=hR.nl;have:=kq.2.2.2;omega⟩,fun bt L' mv=>ak (by omega) (hn (na,np,nh,bt,A,P,H,L') ⟨hc,by rw[kC];exact(hR.go rY mv).2.2.2 (by simp[fO,JH]) (by simp[gj,JH])⟩)⟩
     |false=>
      simp only[zbn]
      exact⟨m,o,y,na,np,nh,nl,A,P,H,L,i,false,k,rfl,⟨ic,hR.nl.trans (by rw[hR.l,zaa]),by have:=hR.nl;have:=kq.2.2.2;omega⟩,fun bt L' mv=>ak (by omega) (hn (na,np,nh,bt,A,P,H,L') ⟨hc,by rw[kC];exact(hR.go rY mv).2.2.2 (by simp[fO,JH]) (by simp[gj,JH])⟩)⟩
    ·rw[show(y.kind==0)=false by simp[gm],show(y.kind==1)=false by simp[fW],show(y.kind !=2)=true by simp[JH]]
     cases on with
     |true=>
      simp only[zbn]
      exact ak fB (ak Nr (ao p9 (ao (ec hR.nh (by rw[hR.h,zaa]) (by have:=kq.2.2.1;omega) (by decide)) (⟨m,o,y,na,np,nh+1,nl,A,P,List.take nh H++[jz (y.node,g.s)],L,i,true,k,rfl,⟨ic,hR.nl.trans (by rw[hR.l,zaa]),by have:=hR.nl;have:=kq.2.2.2;omega⟩,fun bt L' mv=>ak (by omega) (hn (na,np,nh+1,bt,A,P,List.take nh H++[jz (y.node,g.s)],L') ⟨hc,by rw[kC];exact(hR.go rY mv).2.2.1 (by simp[fO,gm,fW]) (by simp[gj,JH])⟩)⟩))))
     |false=>
      simp only[zbn]
      exact⟨m,o,y,na,np,nh,nl,A,P,H,L,i,false,k,rfl,⟨ic,hR.nl.trans (by rw[hR.l,zaa]),by have:=hR.nl;have:=kq.2.2.2;omega⟩,fun bt L' mv=>ak (by omega) (hn (na,np,nh,bt,A,P,H,L') ⟨hc,by rw[kC];exact(hR.go rY mv).2.2.2 (by simp[fO,gm]) (by simp[gj])⟩)⟩)
 (by
  rintro⟨m,o,g,i,on,t,N⟩ ⟨na,np,nh,nl,A,P,H,L⟩ k post hk ⟨hc,hR⟩ ho
  dsimp only at*
  (rw[<-TC];delta D8 D9 Vk Ty bO YN zs NJ eK oH NK YO YP eu Zb5 NL Hn NM NN NP vU Ap NQ cP NR Tz Zt ZK Jy NS NT Ho iC Hp fu oF tB Zn qz gh vo Za Z9 Zj qY Ra vG vH vI zg z7 zh z8 Aa lj zi zj zk zl zm ug uh ui vJ Vp Zb4 Z7 vp Zbc Zbi Zbj Zg gQ lv Zb9 Zb8 Zb7 Hk Zbg Zbm oE oS Zbb Zbf Zbe yU ep fC tC og vO Zbn Zba ZE Zbh Zbd Zbk Zbl Hl NI Hm)
  rw[hc.2.2.1.2.2]
  have u6:D.e8 (D.aq (aU g) 6)=g.ops.map eH:=rfl
  rw[u6]
  rw[zak] at hR
  have fB:0<=i/\i<(m.length:Int):=⟨hc.2.2.1.1,hc.2.2.1.2.1⟩
  have Nr:i.toNat<(m.map aU).length:=by rw[zaa];omega
  exact ak fB (ak Nr (ao (ft g) (lK (by rw[zaa];omega) (ho _ (fun h=>by cases h) ⟨na,np,nh,nl,A,P,H,L,hR,rfl⟩)))))
 (by
  rintro s post ⟨m,o,na,np,nh,nl,A,P,H,L,i,on,t,N,hi,rfl,⟨h1,h2,h3,h4⟩,hp⟩
  refine⟨⟨m,o,m[i.toNat],i,on,t,N⟩,(na,np,nh,nl,A,P,H,L),rfl,⟨⟨h2,h3,⟨h4.1,by show i<(m.length:Int);omega,ay _ _ _ hi⟩,h4.2.1,h4.2.2⟩,h1⟩,?_⟩
  rintro z ⟨oI,oJ,oK,bt,A',P',H',L',g1,rfl⟩
  exact hp oI oJ oK bt A' P' H' L' g1)
end
abbrev YT (l:List az) (s:az) (k:Int):S:=⟨19,[(0,ki l),(3,.ref 0 0 0),(7,iD ((l.map bh).length:Int)),(8,iD k)],[(0,⟨0,none,.box 30 [iD s.1,iD s.2]⟩)]⟩
theorem TK (l:List az) (s:az) (k:Int) (post:PX×S->Prop):(bif Xc k l then bif QX k l then bif vK l k then bif Prod.fst s==G8 l k&&(Prod.snd s==IY l k&&true) then post (PX.ret,S.mk 19 (Ai k) []) else bif Zj k then post (PX.normal,S.mk 19 (Z86 l::dF::(7,P.d (D.int .i64 (C9 l)))::qz k) (Z87 s)) else False else False else False else post (PX.exit 0,S.mk 19 [] []))=(aD [] [] 69 2 (YT l s k)) post:=by kernel_rfl
def qd3:S->K (PX×S):=fun st post=> ∃l s,st=YT l s 0/\l.length<=1000000/\(∀i:Int,i=ud (fun x=>x==s) l->0<=i->post (.ret,⟨19,[(4,iD i)],[]⟩))/\(ud (fun x=>x==s) l= -1->post (.exit 0,⟨19,[],[]⟩))
def Zbo (l:List az) (s:az):S:=S.mk 19 (Z86 l::dF::(7,P.d (D.int .i64 (C9 l)))::Jr) (Z87 s)
theorem qgO (l:List az) (s:az) (post:P×List (Nat×En)->Prop):(∃(ar:List az) (iA:az),Zbo l s=Zbo ar iA/\rN ar/\(∀(i:Int),i=ud (fun(x:az)=>x==iA) ar->(0:Int)<=i->post (P.d (Zt i),[]))/\(ud (fun(x:az)=>x==iA) ar=(-1:Int)->oN post))=(aJ [] [(2,ae (aL 69 2) qd3)] 69 [ki l,.d (bh s)] []) post:=by kernel_rfl
def qd4:bq:=fun ps R post=> ∃l s,ps=[ki l,.d (bh s)]/\R=[]/\l.length<=1000000/\ ∀i,i=ud (fun x=>x==s) l->post (iD i,[])
theorem qgP (l:List az) (s:az) (post:P×List (Nat×En)->Prop):(∃(ar:List az) (iA:az),uj l::oP s=uj ar::oP iA/\Zx/\rN ar/\ ∀(i:Int),i=ud (fun(x:az)=>x==iA) ar->post (P.d (D.bool (Z2 i)),[]))=(aJ [(69,qd4)] [] 38 [ki l,.d (bh s)] []) post:=by kernel_rfl
def GB:bq:=fun ps R post=> ∃l s,ps=[ki l,.d (bh s)]/\R=[]/\l.length<=1000000/\ ∀b,b=decide (s∈l)->post (.d (.bool b),[])
def JI:bq:=fun ps R post=> ∃l,ps=[bP l]/\R=[]/\nT l/\ ∀o,o=M6 l->post (.sl 0 0 o.length,[(0,⟨0,none,lZ false o⟩)])
abbrev DE:Nat:=101
abbrev kpU:Option (List Nat×List Nat):=some ([4,5,6],[4,5,6])
abbrev vlR (own:List aj):List (Nat×En):=[(0,⟨0,some 1,.ew⟩),(1,⟨0,some 0,.box 22 [bP own]⟩)]
abbrev zu (own:List aj) (i:Int):S:=⟨16,[(0,.mp 0 0),(1,.ref 1 0 0),(5,bP own),(6,iD ((own.map aU).length:Int)),(7,iD i)],vlR own⟩
abbrev Vy (own:List aj):S:=⟨16,[(0,.mp 0 0),(1,.ref 1 0 0)],vlR own⟩
abbrev Vz (z:Bool) (on:List az) (x:az) (e:Int):S:=⟨27,[(4,.ref 0 0 0),(5,.ref 1 0 0),(6,.ref 2 0 0)],[(0,⟨0,none,.box 30 [iD x.1,iD x.2]⟩),(1,⟨0,none,.box 35 [iD e]⟩),(2,⟨0,none,.box 51 [.sl 3 0 on.length]⟩),(3,⟨0,none,lZ z on⟩)]⟩
def VA (own:List aj):List (Nat×En):=[(0,En.mk 0 (some 1) Obj.ew),(1,En.mk 0 (some 0) (Obj.box (22:TypeId) [cX own]))]
def VB:Nat×P:=(0,P.mp 0 0)
def JJ (own:List aj):S:=S.mk 16 [VB,(1,iC)] (VA own)
def Ly (on:List az):Nat×En:=(3,oH on)
def zw (on:List az):Nat×En:=(2,En.mk 0 none (Obj.box (51:TypeId) [P.sl 3 0 (eu on)]))
def NU:En:=En.mk 0 none (Obj.box (35:TypeId) qu)
def zx:Nat×En:=(1,NU)
def JK:Nat×P:=(6,r6)
def Zbw:List (Nat×P):=[Al,Jp,JK]
def ZbG (on:List az):PX×S:=(PX.normal,S.mk 27 Zbw [wK,zx,zw on,Ly on])
def TL (own:List aj) (i:Int):S:=S.mk 16 (VB::(1,iC)::(5,cX own)::(6,Dl own)::ZL i) (VA own)
def YU (on:List az):Nat×En:=(3,En.mk 0 none (Obj.arr (30:TypeId) true (eK on)))
def ZbD (on:List az):PX×S:=(PX.normal,S.mk 27 Zbw [wK,zx,zw on,YU on])
def Zbx (own:List aj) (i:Int):Nat×En:=(0,En.mk 0 none (Obj.box (30:TypeId) [P.d (oS own i),P.d (oE own i)]))
def VC (b:Bool) (l:List az) (s:az):Prop:=b=decide (s∈l)
def TM (on:List az):D:=D.sl 2 (List.take (eu on) (eK on))
def ZbE (on:List az) (own:List aj) (i:Int) (post:PX×S×PX×S->Prop):Prop:= ∃(l:List az) (s:az),P.d (TM on)::RG own i=uj l::oP s/\Zx/\rN l/\ ∀(b:Bool),VC b l s->bif b then post (PX.ret,JJ own,PX.ret,S.mk 27 Zbw [Zbx own i,zx,zw on,YU on]) else bif Zj i then post (PX.normal,TL own i,ZbD on) else False
def VD (own:List aj) (i:Int):Bool:=D.ah (D.aq (gQ own i) 4)==(0:Int)&&(D.ah (D.aq (gQ own i) 5)==(0:Int)&&true)
theorem qiG (own:List aj) (on:List az) (i:Int) (post:PX×S×PX×S->Prop):(bif oG i own then bif ji i own then bif ep own i then bif VD own i then ZbE on own i post else bif Zj i then post (PX.normal,TL own i,ZbG on) else False else False else False else post (PX.exit 0,JJ own,ZbG on))=(lY [(38,GB)] [] 19 4 2000000 kpU 1 DE 1 (zu own i,(.normal,Vz false on (0,0) 0))) post:=by kernel_rfl
theorem qiH (own:List aj) (on:List az) (i:Int) (post:PX×S×PX×S->Prop):(bif oG i own then bif ji i own then bif ep own i then bif VD own i then ZbE on own i post else bif Zj i then post (PX.normal,TL own i,ZbD on) else False else False else False else post (PX.exit 0,JJ own,ZbD on))=(lY [(38,GB)] [] 19 4 2000000 kpU 1 DE 1 (zu own i,(.normal,Vz true on (0,0) 0))) post:=by kernel_rfl
def gUn:yD:=fun y post=> ∃own on,(own.length<=1000000/\on.length<=1000000)/\y=(zu own 0,(.normal,Vz false on (0,0) 0))/\
 (∀z s,eL on own=some s->post (.ret,Vy own,(.ret,Vz z on s 0)))/\(∀z,eL on own=none->post (.exit 0,Vy own,(.normal,Vz z on (0,0) 0)))
abbrev unA (l own:List aj) (on:List az) (r:Int):S:=⟨27,[(0,bP l),(1,iD r),(4,.ref 1004 0 0),(5,.ref 1005 0 0),(6,.ref 1006 0 0),(8,bP l),(9,.sl 1009000 0 on.length),(10,bP l),(11,iD r),(12,.fn DE [.ref 1012000 0 0])],
 [(1004,⟨0,none,.box 30 [iD 0,iD 0]⟩),(1005,⟨0,none,.box 35 [iD 0]⟩),(1006,⟨0,none,.box 51 [.sl 1009000 0 on.length]⟩),(1006000,⟨0,none,.arr 30 false []⟩),(1009000,⟨0,none,lZ false on⟩),(1012000,⟨0,none,.box 22 [bP own]⟩)]⟩
def ZbI (aM:List az) (z:Bool):List (Nat×En):=[zx,zw aM,(3,En.mk 0 none (Obj.arr (30:TypeId) z (eK aM)))]
def ZbH (own:List aj):S:=S.mk 16 (VB::(1,iC)::(5,cX own)::(6,Dl own)::rB) (VA own)
theorem qiI (l own:List aj) (on:List az) (r:Int) (post:PX×S->Prop):(∃(q4:List aj) (aM:List az),(mx q4/\rN aM)/\(ZbH own,ZbG on)=(ZbH q4,ZbG aM)/\(∀(z:Bool) (s:az),eL aM q4=some s->post (PX.ret,S.mk 27 Zbw (Hb s::ZbI aM z)))/\ ∀(z:Bool),eL aM q4=none->post (PX.normal,S.mk 27 Zbw (wK::ZbI aM z)))=(wB [] [] (fun fi yt=>if Nat.beq fi DE&&Nat.beq yt 1 then [(1,dY (aL DE 1) gUn)] else []) 19 4 2000000 kpU (unA l own on r)) post:=by kernel_rfl
def qd5:S->K (PX×S):=fun s post=> ∃l own on r,s=unA l own on r/\(own.length<=1000000/\on.length<=1000000)/\(∀z s,eL on own=some s->post (.ret,Vz z on s 0))/\(∀z,eL on own=none->post (.normal,Vz z on (0,0) 0))
def stO (a:az×Int):P:= .cV [.d (bh a.1),iD a.2]
def ZbN (post:P×List (Nat×En)->Prop):Prop:=post (P.cV [P.d (D.agg [Z7,Z7]),P.d (D.int .i64 (200:Int))],[])
def ZbM (post:P×List (Nat×En)->Prop) (s:az):Prop:=post (P.cV (r1 s::qu),[])
def ZbK (aP:List aj):En:=En.mk 0 none (Obj.box (22:TypeId) [cX aP])
def ZbL (l:List aj) (r:Int) (o:List az) (aP:List aj):S:=S.mk 27 [gi l,ZF r,(4,P.ref 1004 0 0),(5,P.ref 1005 0 0),(6,P.ref 1006 0 0),(8,cX l),(9,P.sl 1009000 0 (eu o)),(10,cX l),(11,P.d (Zt r)),(12,P.fn (101:FuncId) [P.ref 1012000 0 0])] [(1004,zo),(1005,NU),(1006,En.mk 0 none (Obj.box (51:TypeId) [P.sl 1009000 0 (eu o)])),(1006000,vU),(1009000,oH o),(1012000,ZbK aP)]
def TN (l:List aj) (r:Int):List P:=cX l::Zv r
theorem qiJ (l:List aj) (r:Int) (post:P×List (Nat×En)->Prop):(∃(ar:List aj),D7 l ar/\Zx/\nT ar/\ ∀(o:List az),o=M6 ar-> ∃(iF:List aj) (cz:Int),TN l r=TN iF cz/\Zx/\nT iF/\ ∀(aP:List aj),aP=Ad (aH iF) cz-> ∃(mV:List aj) (own:List aj) (on:List az) (DV:Int),ZbL l r o aP=ZbL mV DV on own/\(mx own/\rN on)/\(∀(_:Bool) (s:az),eL on own=some s->ZbM post s)/\ ∀(_:Bool),eL on own=none->ZbN post)=(rL [(36,Tp)] [(35,JI)] [(500004,qd5)] 19 [bP l,iD r] []) post:=by kernel_rfl
theorem qgQ (s x:az):(s.1==x.1&&(s.2==x.2&&true))=(x==s):=by
 rw[zaE]
 obtain⟨a,b⟩:=s
 obtain⟨c,d⟩:=x
 simp
 omega
section
variable {X:XF}
theorem YV:LD X 69 2 (ae (aL 69 2) qd3):=
 LD.find (H:=[]) (hk:=[]) (by kernel_rfl) (by kernel_rfl) .nil .nil
  (A:=List az×az) (fun a k=>YT a.1 a.2 k) (·.1) (fun a _ x=>x==a.2) (fun a=>a.1.length<=1000000) (fun a i=>(.ret,⟨19,[(4,iD i)],[]⟩)) (fun a=>(.exit 0,⟨19,[],[]⟩)) (fun _ _ h=>by cases h) (fun _ h=>by cases h)
  (by
   rintro⟨l,s⟩ k post dO hm h0 hk ht hf
   dsimp only at*
   (rw[<-TK];delta kj km Ah Hb Z87 Zn qz eK C9 bT dF uj Z86 Za Z9 Zj Zt nf Ai Zg IY G8 vK QX Xc)
   have e1:D.nth (l.map bh) k.toNat=bh l[k.toNat]:=ay _ _ _ dO
   have v:(s.1==D.ah (D.aq (bh l[k.toNat]) 0)&&(s.2==D.ah (D.aq (bh l[k.toNat]) 1)&&true))=(l[k.toNat]==s):=qgQ _ _
   rw[e1,v]
   simp only[YT,zaa] at hf⊢
   exact bJ hk (ak ⟨h0,hk⟩ (ao (jP _) (ax (fun h=>ht h) fun h=>ak (by omega) (hf h)))))
  (by
   rintro⟨l,s⟩ k post hm hk hp
   dsimp only at*
   (rw[<-TK];delta kj km Ah Hb Z87 Zn qz eK C9 bT dF uj Z86 Za Z9 Zj Zt nf Ai Zg IY G8 vK QX Xc)
   exact lK (by rw[zaa];omega) hp)
  (by
   rintro st post ⟨l,s,rfl,hm,h1,h2⟩
   exact⟨(l,s),rfl,hm,fun i hi h0 ht hb=>h1 i (by rw[FV hi ht hb];omega) h0,fun h=>h2 (KP h)⟩)
theorem qgR:FD X 69 qd4:=FD.mk (H:=[]) (hk:=[(2,ae (aL 69 2) qd3)]) (by kernel_rfl) .nil (.cons YV .nil) (by
 intro ps R post hh
 obtain⟨l,s,rfl,rfl,hm,hp⟩:=hh
 (rw[<-qgO];delta QN oN Zt eu rN kj km Ah Hb Z87 Z7 Jr eK C9 bT dF uj Z86 Zbo)
 exact⟨l,s,rfl,hm,fun i hi _=>hp i hi,fun h=>hp _ h.symm⟩)
theorem qbf:FD X 38 GB:=FD.mk (H:=[(69,qd4)]) (hk:=[]) (by kernel_rfl) (.cons qgR .nil) .nil (by
 intro ps R post hh
 obtain⟨l,s,rfl,rfl,hm,hp⟩:=hh
 (rw[<-qgP];delta Z2 eu rN Zx kj km r1 oP eK uj)
 refine⟨l,s,rfl,rfl,hm,fun i hi=>hp _ ?_⟩
 have h:=yq (fun x=>x==s) l
 rw[<-hi] at h
 rw[zaE,zah,zah]
 have h2:(l.any fun x=>x==s)=true↔s∈l:=by simp[zbx]
 rw[<-h2]
 constructor
 ·intro hge
  refine zaN fun hn=> ?_
  rw[zaV] at hn
  have:=h.2 hn
  omega
 ·intro ha
  refine zaN fun hn=> ?_
  have:=h.1 (by omega)
  rw[this] at ha
  cases ha)
end
theorem wN (l:List aj):(M6 l).length<=l.length:=by
 have h1:=Xx ((aH l).map ll)
 have h2:=dI l
 rw[zaa] at h1
 unfold M6
 omega
section
variable {X:XF} {w0:World} (hX:dt PR w0 X.cf)
include hX
theorem qiK:LY w0 19 4 1 DE 1 (dY (aL DE 1) gUn):=LY.par hX (H:=[(38,GB)]) (HN:=[]) (base:=2000000) (keep:=kpU) D0 (.cons qbf .nil) .nil (by kernel_rfl) (by kernel_rfl) (by kernel_rfl)
 (A:=List aj×List az) (B:=Bool×Int)
 (fun a b=>(zu a.1 b.2,(.normal,Vz b.1 a.2 (0,0) 0)))
 (fun a b=>(a.1.length<=1000000/\a.2.length<=1000000)/\0<=b.2/\b.2.toNat<=a.1.length/\eL a.2 a.1=eL a.2 (a.1.drop b.2.toNat))
 (fun a b=>((a.1.length:Int)-b.2).toNat)
 (fun a x=>(∃z s,eL a.2 a.1=some s/\x=(.ret,Vy a.1,(.ret,Vz z a.2 s 0)))\/(∃z,eL a.2 a.1=none/\x=(.exit 0,Vy a.1,(.normal,Vz z a.2 (0,0) 0))))
 (by
  rintro⟨own,on⟩ ⟨z,i⟩ ⟨hm,h0,hi,hu⟩
  dsimp only at*
  have key: ∀(bg:i.toNat<own.length),eL on own=if own[i.toNat].b7=(0,0)/\own[i.toNat].s∈on then some own[i.toNat].s else eL on (own.drop (i+1).toNat):=fun bg=>by
   rw[hu,za2 bg,show(i+1).toNat=i.toNat+1 by omega]
   rfl
  have Ik: ¬i.toNat<own.length->eL on own=none:=fun bg=>by
   rw[hu,List.drop_of_length_le (by omega)]
   rfl
  have tk:List.take on.length (on.map bh)=on.map bh:=zai (by simp)
  cases z with
  |false=>
   (rw[<-qiG];delta cP cX VA iC VB JJ eK oH Ly eu zw Z7 qu NU zx zo wK r6 JK Jp bT Al Zbw ZbG Zn ZL fC Dl TL Za Z9 Zj YU ZbD Zg gQ oE oS Zbx VC rN Zx kj km r1 oP uj sW RG TM ZbE VD ep ji oG)
   rw[zaa]
   refine cA (fun hp=> ?_) fun hp=> .inr ⟨false,Ik (by omega),rfl⟩
   have bg:i.toNat<own.length:=by omega
   have e1:D.nth (own.map aU) i.toNat=aU own[i.toNat]:=ay _ _ _ bg
   have key:=key bg
   rw[e1,tk]
   generalize own[i.toNat]=g at*
   have u1:D.ah (D.aq (aU g) 4)=g.b7.1:=rfl
   have u2:D.ah (D.aq (aU g) 5)=g.b7.2:=rfl
   rw[u1,u2]
   refine ak ⟨h0,hp⟩ (ao (ft _) (ax (fun h=>⟨on,g.s,rfl,rfl,hm.2,fun b hb=> ?_⟩) fun h=>ak (by omega) ?_))
   ·have hz:g.b7=(0,0):=by
     simp only[zbt,zab,zaS] at h
     exact zdd h.1 h.2
    subst hb
    refine cA (fun hb=> .inl ⟨true,g.s,by rw[key,zao ⟨hz,hb⟩],rfl⟩) fun hb=>ak (by omega) ?_
    exact⟨((own.length:Int)-(i+1)).toNat,by omega,(true,i+1),by simp only[zu,zaa],⟨hm,by show 0<=i+1;omega,by show(i+1).toNat<=_;omega,by show eL on own=eL on (own.drop (i+1).toNat);rw[key,zam (fun hh=>hb hh.2)]⟩,rfl⟩
   ·have hz: ¬g.b7=(0,0):=fun hz=>by rw[hz] at h;simp at h
    exact⟨((own.length:Int)-(i+1)).toNat,by omega,(false,i+1),by simp only[zu,zaa],⟨hm,by show 0<=i+1;omega,by show(i+1).toNat<=_;omega,by show eL on own=eL on (own.drop (i+1).toNat);rw[key,zam (fun hh=>hz hh.1)]⟩,rfl⟩
  |true=>
   (rw[<-qiH];delta cP cX VA iC VB JJ eK YU eu zw Z7 qu NU zx zo wK r6 JK Jp bT Al Zbw ZbD Zn ZL fC Dl TL Za Z9 Zj Zg gQ oE oS Zbx VC rN Zx kj km r1 oP uj sW RG TM ZbE VD ep ji oG)
   rw[zaa]
   refine cA (fun hp=> ?_) fun hp=> .inr ⟨true,Ik (by omega),rfl⟩
   have bg:i.toNat<own.length:=by omega
   have e1:D.nth (own.map aU) i.toNat=aU own[i.toNat]:=ay _ _ _ bg
   have key:=key bg
   rw[e1,tk]
   generalize own[i.toNat]=g at*
   have u1:D.ah (D.aq (aU g) 4)=g.b7.1:=rfl
   have u2:D.ah (D.aq (aU g) 5)=g.b7.2:=rfl
   rw[u1,u2]
   refine ak ⟨h0,hp⟩ (ao (ft _) (ax (fun h=>⟨on,g.s,rfl,rfl,hm.2,fun b hb=> ?_⟩) fun h=>ak (by omega) ?_))
   ·have hz:g.b7=(0,0):=by
     simp only[zbt,zab,zaS] at h
     exact zdd h.1 h.2
    subst hb
    refine cA (fun hb=> .inl ⟨true,g.s,by rw[key,zao ⟨hz,hb⟩],rfl⟩) fun hb=>ak (by omega) ?_
    exact⟨((own.length:Int)-(i+1)).toNat,by omega,(true,i+1),by simp only[zu,zaa],⟨hm,by show 0<=i+1;omega,by show(i+1).toNat<=_;omega,by show eL on own=eL on (own.drop (i+1).toNat);rw[key,zam (fun hh=>hb hh.2)]⟩,rfl⟩
   ·have hz: ¬g.b7=(0,0):=fun hz=>by rw[hz] at h;simp at h
    exact⟨((own.length:Int)-(i+1)).toNat,by omega,(true,i+1),by simp only[zu,zaa],⟨hm,by show 0<=i+1;omega,by show(i+1).toNat<=_;omega,by show eL on own=eL on (own.drop (i+1).toNat);rw[key,zam (fun hh=>hz hh.1)]⟩,rfl⟩)
 (by
  rintro y post ⟨own,on,h1,rfl,h2,h3⟩
  refine⟨(own,on),(false,0),rfl,⟨h1,zby _,by simp,rfl⟩,?_⟩
  rintro x (⟨z,s,h,rfl⟩| ⟨z,h,rfl⟩)
  ·exact h2 z s h
  ·exact h3 z h)
theorem qiL:FN w0 19 4 qd5:=FN.mk hX (H:=[]) (HN:=[]) D0 .nil .nil (base:=2000000) (keep:=kpU) (by kernel_rfl) (hk:=fun fi yt=>if Nat.beq fi DE&&Nat.beq yt 1 then [(1,dY (aL DE 1) gUn)] else [])
 (by
  intro fi yt h zn hl
  split at hl
  ·rename_i hb
   rw[zab] at hb
   have e1:=zaf hb.1
   have e2:=zaf hb.2
   subst e1 e2
   unfold lk at hl
   split at hl
   ·rename_i he
    have e3:=zaf he
    subst e3
    cases hl
    exact⟨by kernel_rfl,qiK hX⟩
   ·cases hl
  ·cases hl)
 (by
  rintro s post ⟨l,own,on,r,rfl,hm,h1,h2⟩
  (rw[<-qiI];delta Z7 qu zo wK eK eu zw NU zx ZbI kj km Ah Hb r6 JK iC Jp bT Al Zbw oH Ly ZbG cP cX VA rB fC Dl VB ZbH rN fu mx)
  exact⟨own,on,hm,rfl,h1,h2⟩)
def BL:bq:=fun ps R post=> ∃l r,ps=[bP l,iD r]/\R=[]/\nT l/\ ∀a,a=Ga l r->post (stO a,[])
theorem qd6 (hV:ND w0 35 JI):ND w0 19 BL:=ND.mk hX (H:=[(36,Tp)]) (HN:=[(35,JI)]) (hk:=[(500004,qd5)]) D0 (by kernel_rfl) (by kernel_rfl) (.cons qa6 .nil) (.cons hV .nil) (.range (qiL hX) .nil) (by
 intro ps R post hh
 obtain⟨l,r,rfl,rfl,hs,hp⟩:=hh
 (rw[<-qiJ];delta Z7 ZbN qu kj km r1 ZbM eu rN fu mx cP cX ZbK eK oH vU NU zo Zt ZF gi ZbL Zv TN Zx D7)
 have hl:=hs.1
 have h1:=wN l
 have h2:=dI l
 have h3:(Ad (aH l) r).length<=(aH l).length:=by rw[(uo _ _).length_eq];exact za4 _ _
 refine⟨l,rfl,rfl,hs,fun o ho=>⟨l,r,rfl,rfl,hs,fun ow how=>⟨l,ow,o,r,rfl,⟨by rw[how];omega,by rw[ho];omega⟩,fun _ s h=> ?_,fun _ h=> ?_⟩⟩⟩
 ·exact hp (s,0) (by unfold Ga;rw[<-ho,<-how,h];rfl)
 ·exact hp ((0,0),200) (by unfold Ga;rw[<-ho,<-how,h];rfl))
end
def qd7:S->K (PX×S):=fun s post=> ∃m o,s=of7 m o 0 0 0 0 [] [] [] [] 0/\(m.length<=1000000/\o.length<=1000000/\ ∀g∈m,cx g=true)/\ ∀na np nh nl A P H L,qZ (vV o m) na np nh nl A P H L->post (.exit 0,⟨140,[(0,.sl 0 0 m.length),(2,.ref 1 0 0),(3,.ref 7 0 0),(4,.sl 13 0 na),(5,.sl 14 0 np)],ofR m o nh nl A P H L⟩)
def TO (TP:List au):P:=P.d (D.sl 3 (List.take (ia TP) (gq TP)))
def ZbO (m:List aj):P:=P.d (D.sl 7 (List.take (fu m) (cP m)))
def ZbQ (m:List aj) (o:List az):S:=S.mk 140 (tB m::Hp::Ho::(4,P.sl 13 0 0)::(5,P.sl 14 0 0)::Js) [NR m,NQ,Ap,NP,NN,NM,NL,(7,En.mk 0 none (Obj.box (69:TypeId) (P.sl 8 0 (eu o)::YP::P.sl 10 0 0::P.sl 11 0 0::YO))),NK o,NJ,(10,Hn),(11,Hn),Ty,(13,Lq),(14,zs)]
def ZbP (m:List aj) (l:List aj):Prop:=[ZbO m]=[cX l]
theorem qiM (l:List aj) (post:P×List (Nat×En)->Prop):(∃(ar:List aj),D7 l ar/\Zx/\nT ar/\ ∀(m:List aj),m=aH ar-> ∃(l:List aj),ZbP m l/\Zx/\mx l/\ ∀(o:List Hd),o=List.map ll l-> ∃(l:List Hd),[P.d (D.sl 4 (Jk o))]=Z8H l/\Zx/\qi l/\ ∀(o:List az),o=Xv l-> ∃(bY:List aj) (aP:List az),ZbQ m o=ZbQ bY aP/\(mx bY/\rN aP/\ZaK bY)/\ ∀(na np nh nl:Nat) (A P H L:List D),qZ (vV aP bY) na np nh nl A P H L-> ∃(a:List au) (l:List Pl),[Pi.P.d (D.sl 3 (List.take na A)),Pi.P.d (D.sl 8 (List.take np P))]=[lJ a,lB l]/\Zx/\(pS a/\jR l=ia a)/\ ∀(o:List Pl),o=Nu (Jx a l)-> ∃(l:List aj) (p:List Pl),[ZbO bY,Pi.P.d (D.sl 8 (List.take (jR o) (im o)))]=[cX l,lB p]/\Zx/\ZaL p l/\ ∀(o:List Pl),o=Hh l p-> ∃(h:List bc) (g:List bc),[Pi.P.d (D.sl 5 (List.take nh H)),Pi.P.d (D.sl 5 (List.take nl L))]=[An h,An g]/\Zx/\(BB h/\BB g)/\ ∀(TP:List au),TP=Nv h g-> ∃(l:List Pl) (v:List au),[Pi.P.d (D.sl 8 (List.take (jR o) (im o))),TO TP]=[lB l,lJ v]/\Zx/\(jR l<=1000/\pS v)/\post (Pi.P.d (D.agg [TM aP,D.sl 8 (List.take (jR o) (im o)),D.sl 5 (List.take nh H),D.sl 5 (List.take nl L),D.sl 6 (List.take (List.length (jQ (oO l) v)) (List.map fw (jQ (oO l) v)))]),[]))=(aJ [(40,vN),(44,qdt),(53,qdw),(55,qdX),(54,Tw),(57,SM),(56,Dw)] [(7,ae (aL 32 7) qd7)] 32 [bP l] []) post:=by kernel_rfl
def TQ (l:List aj) (t:Tl):List Pl:=Hh l (Nu (Jx t.a t.p))
def qgS (l:List aj) (t:Tl):List It:=jQ (oO (TQ l t)) (Nv t.h t.g)
def qgT (o:List az) (p:List Pl) (h g:List bc) (x:List It):P:= .d (.agg [.sl 2 (o.map bh),.sl 8 (p.map bI),.sl 5 (h.map jz),.sl 5 (g.map jz),.sl 6 (x.map fw)])
def SmS (l:List aj):Prop:=nT l/\SmV l
def TR:bq:=fun ps R post=> ∃l,ps=[bP l]/\R=[]/\SmS l/\ ∀o t p x,o=M6 l->t=vV o (aH l)->p=TQ (aH l) t->x=qgS (aH l) t->post (qgT o p t.h t.g x,[])
def GC (f:D->Option D) (o:List az):Prop:= ∀s:az,f (bh s)=if s∈o then some (.agg []) else none
abbrev vwG (g:List aj) (o:List az) (f:D->Option D) (c:Int) (d:D->Option D) (n:Int) (na np nh nl:Nat) (A P H L:List D):List (Nat×En):=[(0,⟨0,some 0,.box 120 [.sl 1 0 g.length,.sl 2 0 o.length,.mp 3 0,.sl 5 0 na,.sl 6 0 np,.mp 4 0,.sl 7 0 nh,.sl 8 0 nl]⟩),(1,⟨0,some 1,oR false g⟩),(2,⟨0,some 2,lZ false o⟩),(3,⟨0,some 3,onM f c⟩),(4,⟨0,some 6,YD d n⟩),(5,⟨0,none,.arr 50 false A⟩),(6,⟨0,none,.arr 104 false P⟩),(7,⟨0,none,.arr 106 false H⟩),(8,⟨0,none,.arr 106 false L⟩)]
def qd8:bq:=fun ps R post=> ∃x g o f c d n na np nh nl A P H L t N e,ps=[.ref 0 0 0,.d (aU x)]/\R=qgF g o f c d n na np nh nl A P H L/\(GC f o/\qZ t na np nh nl A P H L/\lM d e/\uv N t/\N<=300000000/\x.ops.length<=200/\ ∀y∈x.ops,y.b9.length<=200)/\
 ∀d' n' oI oJ oK bt A' P' H' L',qZ (tlG o t x) oI oJ oK bt A' P' H' L'->lM d' (x.ops.foldl qC e)->post (.cV [],vwG g o f c d' n' oI oJ oK bt A' P' H' L')
abbrev vwL (g:List aj) (o:List az) (f:D->Option D) (c:Int) (d:D->Option D) (n:Int) (na np nh nl:Nat) (A P H L:List D):List (Nat×En):=[(0,⟨0,none,vwB g.length o.length na np nh nl⟩),(1,⟨0,none,oR false g⟩),(2,⟨0,none,lZ false o⟩),(3,⟨0,none,onM f c⟩),(4,⟨0,none,.arr 50 false A⟩),(5,⟨0,none,.arr 104 false P⟩),(6,⟨0,none,YD d n⟩),(7,⟨0,none,.arr 106 false H⟩),(8,⟨0,none,.arr 106 false L⟩)]
abbrev YW:D->Option D:=fun _=>none
abbrev vw0 (g:List aj) (o:List az) (f:D->Option D) (c:Int):List (Nat×En):=vwL g o f c YW 0 0 0 0 0 [] [] [] []
abbrev vo5 (l g:List aj) (h:List Hd) (f:D->Option D) (c:Int) (i:Int):S:=⟨98,[(3,.ref 0 0 0),(4,.mp 9 0),(5,.sl 10 0 h.length),(6,.sl 11 0 h.length),(20,bP l),(21,iD ((l.map aU).length:Int)),(22,iD i)],vw0 g [] YW 0++[(9,⟨0,none,mpS f c⟩),(10,⟨0,none,lZ false (h.map (·.2))⟩),(11,⟨0,none,lZ false (h.map (·.1))⟩)]⟩
abbrev qgU (g:List aj) (h:List Hd):S:=⟨98,[(3,.ref 0 0 0),(5,.sl 9 0 h.length),(6,.sl 10 0 h.length)],vw0 g [] YW 0++[(9,⟨0,none,lZ false (h.map (·.2))⟩),(10,⟨0,none,lZ false (h.map (·.1))⟩)]⟩
def TS (h:List Hd):En:=En.mk 0 none (Obj.arr (30:TypeId) false (nV h))
def TT (h:List Hd):En:=En.mk 0 none (Obj.arr (30:TypeId) false (qh h))
def Zch (h:List Hd) (l:List aj) (i:Int):En:=En.mk 0 none (Obj.arr (30:TypeId) false (List.take (fN h) (nV h)++[sW l i]))
def Zcg (h:List Hd) (l:List aj) (i:Int):En:=En.mk 0 none (Obj.arr (30:TypeId) false (List.take (fN h) (qh h)++[D.agg (Vh l i)]))
def Zc2:List P:=[BJ,P.sl 4 0 0,P.sl 5 0 0,P.mp 6 0,P.sl 7 0 0,P.sl 8 0 0]
def Zc3:List P:=P.sl 2 0 0::Zc2
def Zc0 (l:List aj) (i:Int):List (Nat×P):=[(20,cX l),(21,Dl l),(22,P.d (Zn i))]
def ZbZ:Nat×P:=(4,P.mp 9 0)
def Zcf (h:List Hd) (l:List aj) (i:Int):Nat:=fN h+List.length [D.agg (Vh l i)]
def Zce (h:List Hd) (l:List aj) (i:Int):Nat:=fN h+List.length [sW l i]
def Zcd (h:List Hd):List (Nat×En):=[(10,TT h),(11,TS h)]
def TU:Nat×En:=(8,Hn)
def TV:Nat×En:=(7,Hn)
def TX:Nat×En:=(6,En.mk 0 none (Obj.map 50 (fun(_:D)=>none) (0:Int) false))
def TY:Nat×En:=(5,zs)
def T0:Nat×En:=(4,Lq)
def YX:Nat×En:=(3,M9)
def Zc4 (g:List aj):Nat×En:=(0,En.mk 0 none (Obj.box (120:TypeId) (tE g::Zc3)))
def Zc1 (h:List Hd) (l:List aj) (i:Int):List (Nat×P):=dF::ZbZ::(5,P.sl 10 0 (fN h))::(6,P.sl 11 0 (fN h))::Zc0 l i
theorem qbg (l g:List aj) (h:List Hd) (f:D->Option D) (c:Int) (i:Int) (post:PX×S->Prop):(bif oG i l then bif ji i l then bif ep l i then∃(aO:aj),XG l i aO/\Zx/\Oj aO/\ ∀(e:Int),XE e aO->bif e !=(0:Int) then bif Zj i then post (PX.normal,S.mk 98 (Zc1 h l i) (Zc4 g::BE g::Ap::YX::T0::TY::TX::TV::TU::(9,Ag f c)::Zcd h)) else False else bif cC PR (3:TypeId) (cD (f (sW l i)) Z7) then bif Z4S f l i then bif cC PR (3:TypeId) (Z4T l i f) then bif decide (D.ah (Z4T l i f)>(1:Int)) then bif Zj i then post (PX.normal,S.mk 98 (Zc1 h l i) (Zc4 g::BE g::Ap::YX::T0::TY::TX::TV::TU::(9,Z4Y l i f c)::Zcd h)) else False else bif XD g l i then bif Nat.ble (fN h) (List.length (nV h))&&aN (Zce h l i) 16 then bif Nat.ble (fN h) (List.length (qh h))&&aN (Zcf h l i) 16 then bif Zj i then post (PX.normal,S.mk 98 (dF::ZbZ::(5,P.sl 10 0 (Zcf h l i))::(6,P.sl 11 0 (Zce h l i))::Zc0 l i) [(0,En.mk 0 none (Obj.box (120:TypeId) (P.sl 1 0 (K0 g l i)::Zc3))),(1,XC g l i),Ap,YX,T0,TY,TX,TV,TU,(9,Z4Y l i f c),(10,Zcg h l i),(11,Zch h l i)]) else False else False else False else False else False else False else False else False else False else post (PX.exit 0,S.mk 98 [dF,(5,P.sl 9 0 (fN h)),(6,P.sl 10 0 (fN h))] [Zc4 g,BE g,Ap,YX,T0,TY,TX,TV,TU,(9,TT h),(10,TS h)]))=(eX [(51,FZ)] [] [] 61 5 (vo5 l g h f c i)) post:=by kernel_rfl
def qd9:S->K (PX×S):=fun s post=> ∃l,s=vo5 l [] [] YW 0 0/\nT l/\ ∀g h,g=aH l->h=g.map ll->post (.exit 0,qgU g h)
abbrev qea (g:List aj) (o:List az) (f:D->Option D) (c:Int) (i:Int):S:=⟨98,[(3,.ref 0 0 0),(71,.sl 2 0 o.length),(72,iD (o.length:Int)),(73,iD i)],vw0 g o f c⟩
def Zcj:List (Nat×En):=[T0,TY,TX,TV,TU]
def Zci (g:List aj) (o:List az):Nat×En:=(0,En.mk 0 none (Obj.box (120:TypeId) (tE g::BK o::Zc2)))
theorem T1 (g:List aj) (o:List az) (f:D->Option D) (c:Int) (i:Int) (post:PX×S->Prop):(bif decide (i<(↑(eu o):Int)) then bif decide ((0:Int)<=i/\i<(↑(eu o):Int)) then bif K9 i o then bif vK o i then bif Zj i then post (PX.normal,S.mk 98 [dF,(71,BK o),(72,P.d (D.int .i64 (↑(eu o):Int))),(73,P.d (Zn i))] (Zci g o::BE g::(2,oH o)::(3,En.mk 0 none (Obj.map 30 (fun(k':D)=>bif D.nZ (D.agg [D.int .i64 (G8 o i),D.int .i64 (D.ah (D.aq (D.nth (eK o) (Zg i)) (0+1)))]) k' then some (D.agg []) else f k') (bif Option.isSome (f (D.agg (Ac o i))) then c else c+(1:Int)) false))::Zcj)) else False else False else False else False else post (PX.exit 2,S.mk 98 Hf (Zci g o::BE g::(2,oH o)::(3,Ag f c)::Zcj)))=(eX [] [] [] 61 15 (qea g o f c i)) post:=by kernel_rfl
def T2:S->K (PX×S):=fun s post=> ∃g o,s=qea g o YW 0 0/\o.length<=1000000/\ ∀f c,GC f o->post (.exit 2,⟨98,[(3,.ref 0 0 0)],vw0 g o f c⟩)
abbrev qeb (g:List aj) (o:List az) (f:D->Option D) (c:Int) (d:D->Option D) (n:Int) (na np nh nl:Nat) (A P H L:List D) (i:Int):S:=⟨98,[(3,.ref 0 0 0),(87,.sl 1 0 g.length),(88,iD (g.length:Int)),(89,iD i)],vwL g o f c d n na np nh nl A P H L⟩
def Zcl (aO:List aj) (aP:List az) (oI:Nat) (oJ:Nat) (oK:Nat) (bt:Nat) (dJ:D->Option D) (dS:Int) (A':List D) (P':List D) (d':D->Option D) (n':Int) (H':List D) (L':List D):List (Nat×En):=(0,En.mk 0 none (Obj.box (120:TypeId) (tE aO::BK aP::BJ::P.sl 4 0 oI::P.sl 5 0 oJ::Ts oK bt)))::BE aO::(2,oH aP)::(3,Ag dJ dS)::eU A'::eT P'::(6,En.mk 0 none (Obj.map 50 d' n' false))::YE H' L'
def Zck (g:List aj) (o:List az) (na:Nat) (np:Nat) (nh:Nat) (nl:Nat) (f:D->Option D) (c:Int) (A:List D) (P:List D) (d:D->Option D) (n:Int) (H:List D) (L:List D):List (Nat×En):=[fJ g o na np nh nl,dM g,dL o,dK f c,(4,En.mk 0 (some 4) (Obj.arr (50:TypeId) false A)),(5,En.mk 0 (some 5) (Obj.arr (104:TypeId) false P)),eY d n,(7,En.mk 0 (some 7) (Obj.arr (106:TypeId) false H)),(8,En.mk 0 (some 8) (Obj.arr (106:TypeId) false L))]
theorem T3 (g:List aj) (o:List az) (f:D->Option D) (c:Int) (d:D->Option D) (n:Int) (na np nh nl:Nat) (A P H L:List D) (i:Int) (post:PX×S->Prop):(bif Jj i g then bif vO i g then bif tC i g then bif ep g i then∃(x:aj) (aO:List aj) (aP:List az) (dJ:D->Option D) (dS:Int) (eN:D->Option D) (cF:Int) (bj:Nat) (bk:Nat) (bm:Nat) (aT:Nat) (dm:List D) (dn:List D) (dp:List D) (cb:List D) (t:Tl) (N:Nat) (e:au->Option Bool),[bT,Pi.P.d (D.agg (Af g i))]=bT::I7 x/\Zck g o na np nh nl f c A P d n H L=Zck aO aP bj bk bm aT dJ dS dm dn eN cF dp cb/\(GC dJ aP/\qZ t bj bk bm aT dm dn dp cb/\lM eN e/\uv N t/\N<=300000000/\Z4f x/\ ∀(y:aW),y∈aj.ops x->List.length (aW.b9 y)<=200)/\ ∀(d':D->Option D) (n':Int) (oI oJ oK bt:Nat) (A' P' H' L':List D),qZ (tlG aP t x) oI oJ oK bt A' P' H' L'->lM d' (List.foldl qC e (aj.ops x))->bif Zj i then post (PX.normal,S.mk 98 [dF,(87,tE g),(88,BF g),(89,Pi.P.d (Zn i))] (Zcl aO aP oI oJ oK bt dJ dS A' P' d' n' H' L')) else False else False else False else False else post (PX.exit 4,S.mk 98 Hf (Zcl g o na np nh nl f c A P d n H L)))=(eX [] [(95,qd8)] [] 61 20 (qeb g o f c d n na np nh nl A P H L i)) post:=by kernel_rfl
def DF (g:List aj):au->Option Bool:=(g.flatMap (·.ops)).foldl qC (fun _=>none)
def T4:S->K (PX×S):=fun s post=> ∃g o f c,s=qeb g o f c YW 0 0 0 0 0 [] [] [] [] 0/\(GC f o/\g.length<=1000000/\ ∀x∈g,cx x=true)/\ ∀d n na np nh nl A P H L,qZ (vV o g) na np nh nl A P H L->lM d (DF g)->post (.exit 4,⟨98,[(3,.ref 0 0 0)],vwL g o f c d n na np nh nl A P H L⟩)
def Zco (aO:List aj) (aP:List az) (f:D->Option D) (c:Int):S:=S.mk 98 [dF,(87,tE aO),(88,BF aO),(89,P.d Z7)] (Zci aO aP::BE aO::(2,oH aP)::(3,Ag f c)::Zcj)
def Zcn (o:List az) (g:List aj):S:=S.mk 98 [dF,(71,BK o),(72,P.d (D.int .i64 (↑(eu o):Int))),(73,P.d Z7)] (Zci g o::BE g::(2,oH o)::YX::Zcj)
def Zcm (l:List aj):S:=S.mk 98 [dF,ZbZ,(5,P.sl 10 0 0),(6,P.sl 11 0 0),(20,cX l),(21,Dl l),(22,P.d Z7)] [(0,En.mk 0 none (Obj.box (120:TypeId) (zt::Zc3))),(1,Ot),Ap,YX,T0,TY,TX,TV,TU,(9,M9),(10,vU),(11,vU)]
theorem qiN (l:List aj) (post:P×List (Nat×En)->Prop):(∃(ar:List aj),Zcm l=Zcm ar/\nT ar/\ ∀(g:List aj) (h:List Hd),g=aH ar->h=List.map ll g-> ∃(l:List Hd),[P.d (D.sl 2 (List.take (fN h) (nV h))),P.d (D.sl 2 (List.take (fN h) (qh h)))]=Z6h l/\Zx/\qi l/\ ∀(o:List az),o=Xv l-> ∃(aO:List aj) (aP:List az),Zcn o g=Zcn aP aO/\rN aP/\ ∀(f:D->Option D) (c:Int),GC f aP-> ∃(g:List aj) (o:List az) (dJ:D->Option D) (dS:Int),Zco aO aP f c=Zco g o dJ dS/\(GC dJ o/\mx g/\ZaK g)/\ ∀(d:D->Option D) (n:Int) (na np nh nl:Nat) (A P H L:List D),qZ (vV o g) na np nh nl A P H L->lM d (DF g)->post (bT,Zcl g o na np nh nl dJ dS A P d n H L))=(rL [] [(94,qcV)] [(5,ae (aL 61 5) qd9),(15,ae (aL 61 15) T2),(20,ae (aL 61 20) T4)] 61 [bP l] []) post:=by kernel_rfl
def qec:bq:=fun ps R post=> ∃l,ps=[bP l]/\R=[]/\nT l/\ ∀g o f c d n na np nh nl A P H L,g=aH l->o=M6 l->GC f o->qZ (vV o g) na np nh nl A P H L->lM d (DF g)->post (.ref 0 0 0,vwL g o f c d n na np nh nl A P H L)
theorem qgV (l:List aj) (post:P×List (Nat×En)->Prop):(∃(ar:List aj),D7 l ar/\Zx/\nT ar/\ ∀(g:List aj) (o:List az) (f:D->Option D) (_:Int) (d:D->Option D) (_:Int) (na np nh nl:Nat) (A P H L:List D),g=aH ar->o=M6 ar->GC f o->qZ (vV o g) na np nh nl A P H L->lM d (DF g)->post (zq o,Nd o))=(rL [] [(61,qec)] [] 35 [bP l] []) post:=by kernel_rfl
theorem DG: ∀{l:List aj},(∀g∈l,cx g=true)->df l<=200*l.length
 | [],_=>by simp[lq]
 |g::r,h=>by
  have h1:=DG (l:=r) fun x hx=>h x (.tail _ hx)
  have h2:=s5 (h g (.head _))
  rw[iW,zap]
  omega
theorem GC.none:GC YW []:=fun s=>by rw[zam (by simp)]
theorem GC.go {f:D->Option D} {o:List az} {i:Nat} (hi:i<o.length) (h:GC f (o.take i)):GC (fun k'=>bif D.nZ (bh o[i]) k' then some (.agg []) else f k') (o.take (i+1)):=fun s=>by
 show(bif D.nZ (bh o[i]) (bh s) then some (D.agg []) else f (bh s))=_
 rw[Tj,h s,zag hi]
 by_cases hs:o[i]=s
 ·subst hs
  rw[show(o[i]==o[i])=true by simp]
  show some (D.agg [])=_
  rw[zao (zbb _ (.head _))]
 ·rw[show(o[i]==s)=false by simpa using hs]
  show(if s∈o.take i then some (D.agg []) else Option.none)=_
  by_cases hm:s∈o.take i
  ·rw[zao hm,zao (zbz _ hm)]
  ·rw[zam hm,zam (fun hh=>(zaG.1 hh).elim hm fun h2=>hs (zbf.1 h2).symm)]
theorem NV {g:List aj} {i:Nat} (hi:i<g.length):DF (g.take (i+1))=g[i].ops.foldl qC (DF (g.take i)):=by
 unfold DF
 rw[zag hi,zbF,za1]
 simp
theorem isU:cC PR 167 (.agg [])=true:=by kernel_rfl
section
variable {X:XF} {w0:World} (hX:dt PR w0 X.cf)
include hX
theorem qgW:ND w0 95 qd8:=ND.mk hX (H:=[]) (HN:=[]) (hk:=[(3,ae (aL 95 3) qdM)]) D0 (by kernel_rfl) (by kernel_rfl) .nil .nil (.loop (by decide) (qgG hX).T .nil) (by
 intro ps R post hh
 obtain⟨x,g,o,f,c,d,n,na,np,nh,nl,A,P,H,L,t,N,e,g1,g2,hc,hp⟩:=hh
 (rw[g1,g2,<-qiC];delta bO YE D8 D9 BJ eu BK fu tE Z4f gh iw mZ jg jh lW oC iB gK iU gN jC eY eT eU dK eK dL cP dM Ts fJ Z7 vg iu iv Zab ig bT eW)
 have hf:f (D.agg [D.int .i64 x.s.1,D.int .i64 x.s.2])=if x.s∈o then some (.agg []) else none:=hc.1 x.s
 rw[hf]
 by_cases hm:x.s∈o
 ·rw[zao hm]
  exact ao isU ⟨x,g,o,f,c,d,n,na,np,nh,nl,A,P,H,L,true,t,N,e,rfl,hc.2,fun d' n' oI oJ oK bt A' P' H' L' g1 g2=>hp d' n' oI oJ oK bt A' P' H' L' (by unfold tlG;rw[zaR hm];exact g1) g2⟩
 ·rw[zam hm]
  exact ao isU ⟨x,g,o,f,c,d,n,na,np,nh,nl,A,P,H,L,false,t,N,e,rfl,hc.2,fun d' n' oI oJ oK bt A' P' H' L' g1 g2=>hp d' n' oI oJ oK bt A' P' H' L' (by unfold tlG;rw[zaL hm];exact g1) g2⟩)
theorem qgX:LN w0 61 5 (ae (aL 61 5) qd9):=LN.idx hX (H:=[(51,FZ)]) (HN:=[]) (hk:=[]) D0 (by kernel_rfl) (by kernel_rfl) (by kernel_rfl) (.cons qaN .nil) .nil .nil
 (A:=List aj) (B:=List aj×List az×Int) (fun l b i=>vo5 l b.1 (b.1.map ll) (cM b.2.1) b.2.2 i) (fun l=>l.length) (fun l i b=>nT l/\b.1=aH (l.take i)/\vP b.2.1 b.1/\b.2.1.length<=i)
 (fun l x=>x=(.exit 0,qgU (aH l) ((aH l).map ll)))
 (by
  rintro l ⟨o,U,c⟩ i post h0 bN bg ⟨hs,rfl,hU,Na⟩ hn ho
  dsimp only at*
  (rw[<-qbg];delta nV TS qh TT Zg cP gQ oE oS sW fN Zch Vh Zcg Ae Af fu XC BJ Zc2 Zc3 K0 Zn fC Dl cX Zc0 ZbZ bT dF Zcf Zce XD Z7 Z4X Z4Y Z4T Za Z9 Z4S Zcd Ag Hn TU TV TX zs TY Lq T0 M9 YX vU Ap r3 BE tE Zc4 Zc1 Zj XE Zx jg jh iB gK iU gN oQ I7 XG ep ji oG)
  have e1:D.nth (l.map aU) i.toNat=aU l[i.toNat]:=ay _ _ _ bg
  rw[e1]
  have hsg:=hs.2 _ (zas bg)
  have sX:=pR bg
  have lX:=dI (l.take i.toNat)
  rw[zay] at lX
  generalize l[i.toNat]=g at sX hsg
  have qp:=hs.1
  have t1:D.agg [D.int .i64 (D.ah (D.aq (aU g) 0)),D.int .i64 (D.ah (D.aq (aU g) 1))]=bh g.s:=rfl
  have v1: ∀n:Int,D.ah (iE n)=n:=fun _=>rfl
  have g0:cD (cM U (bh g.s)) (.int .i64 0)=iE (U.count g.s:Int):=pQ U g.s
  have GU:=zbV (a:=g.s) (l:=U)
  have u2:=fun z=>Dk U g.s z
  have u3:=fun z=>Dj U g.s z
  have g1:cD (cM (g.s::U) (bh g.s)) (.int .i64 0)= .int .i64 ((U.count g.s:Int)+1):=by
   have:=pQ (g.s::U) g.s
   rw[zcb] at this
   exact this
  have zU:(U.count g.s:Int)=0↔ ¬g.s∈U:=by
   rw[<-zcR]
   omega
  have hcb:0<=(U.count g.s:Int)/\(U.count g.s:Int)<=1000000:=by have:=hs.1;omega
  generalize (U.count g.s:Int)=cn at g0 u2 u3 g1 zU hcb
  rw[t1,g0]
  simp only[v1]
  have fB:i<((l.map aU).length:Int):=by rw[zaa];exact bN
  refine bJ fB (ak ⟨h0,fB⟩ (ao (ft _) ⟨g,rfl,rfl,hsg,fun e he=>Bd (fun h1=>ak (by omega) (hn (aH (l.take i.toNat),U,c) ⟨hs,?_,hU,zcT Na⟩)) fun h1=> ?_⟩))
  ·rw[sX,Dn]
   cases hg:cx g with
   |false=>rfl
   |true=>rw[hg] at he;exact absurd he h1
  ·have hg:cx g=true:=by
    cases hg:cx g with
    |true=>rfl
    |false=>rw[hg,zam (by simp)] at he;omega
   refine ao (Aj _) (ak (by omega) ?_)
   rw[u2,g1,u3]
   refine ao (Aj _) ?_
   have v2: ∀n:Int,D.ah (D.int .i64 n)=n:=fun _=>rfl
   simp only[v2]
   refine cA (fun h2=>ak (by omega) (hn (aH (l.take i.toNat),g.s::U,_) ⟨hs,?_,hU.had ?_,zbY Na⟩)) fun h2=> ?_
   ·have hx:g.s∈U:=zaN fun h=>by have:=zU.2 h;omega
    rw[sX,yB ((hU g.s).1 hx)]
   ·exact zaN fun h=>by have:=zU.2 h;omega
   ·have hx: ¬g.s∈U:=zU.1 (by omega)
    have zY:((aH (l.take i.toNat)).any fun x=>x.s==g.s)=false:=by rw[<-zaV,<-hU g.s];exact hx
    have hy:=fun c':Int=>hn (aH (l.take i.toNat)++[g],g.s::U,c') ⟨hs,by rw[sX,yC hg zY],hU.new,zbY Na⟩
    generalize aH (l.take i.toNat)=r at*
    have p0:List.take r.length (r.map aU)++[aU g]=(r++[g]).map aU:=cq aU r g
    have p1:List.take (r.map ll).length (((r.map ll).map fun x=>x.1).map bh)++[bh g.s]=(((r++[g]).map ll).map fun x=>x.1).map bh:=by
     rw[zai (by simp)]
     simp[ll]
    have p2:List.take (r.map ll).length (((r.map ll).map fun x=>x.2).map bh)++[bh g.b7]=(((r++[g]).map ll).map fun x=>x.2).map bh:=by
     rw[zai (by simp)]
     simp[ll]
    have q0:(r++[g]).length=r.length+1:=by simp
    have q1:((r++[g]).map ll).length=(r.map ll).length+1:=by simp
    simp only[vo5,vw0,vwL,vwB,oR,lZ] at hy
    rw[<-p0,<-p1,<-p2,q0,q1] at hy
    have hrl:(r.map ll).length<=1000000:=by rw[zaa];omega
    have rm: ∀{α:Type} (f:α->D) (m:List α) (z:D) (b:Nat),m.length<=1000000->b<=100->(Nat.ble m.length (m.map f).length&&aN (m.length+List.length [z]) b)=true:=fun f m z b hm hb=>ec rfl (by rw[zaa]) (by omega) hb
    have rm1:(Nat.ble (r.map ll).length (((r.map ll).map fun x=>x.1).map bh).length&&aN ((r.map ll).length+List.length [bh g.s]) 16)=true:=ec rfl (by simp) (by omega) (by decide)
    have rm2:(Nat.ble (r.map ll).length (((r.map ll).map fun x=>x.2).map bh).length&&aN ((r.map ll).length+List.length [bh g.b7]) 16)=true:=ec rfl (by simp) (by omega) (by decide)
    exact ao (rm aU r _ 88 (by omega) (by decide)) (ao rm1 (ao rm2 (ak (by omega) (hy _)))))
 (by
  rintro l ⟨o,U,c⟩ i post hi ⟨hs,rfl,hU,Na⟩ ho
  dsimp only at*
  (rw[<-qbg];delta nV TS qh TT Zg cP gQ oE oS sW fN Zch Vh Zcg Ae Af fu XC BJ Zc2 Zc3 K0 Zn fC Dl cX Zc0 ZbZ bT dF Zcf Zce XD Z7 Z4X Z4Y Z4T Za Z9 Z4S Zcd Ag Hn TU TV TX zs TY Lq T0 M9 YX vU Ap r3 BE tE Zc4 Zc1 Zj XE Zx jg jh iB gK iU gN oQ I7 XG ep ji oG)
  refine lK (by rw[zaa];omega) (ho _ (fun h=>by cases h) ?_)
  rw[zak]
  rfl)
 (by
  rintro s post ⟨l,rfl,hs,hp⟩
  refine⟨l,([],[],0),by rw[Di];rfl,⟨hs,rfl,vP.nil,by simp⟩,?_⟩
  rintro x rfl
  exact hp _ _ rfl rfl)
theorem qed:LN w0 61 15 (ae (aL 61 15) T2):=LN.idx hX (H:=[]) (HN:=[]) (hk:=[]) D0 (by kernel_rfl) (by kernel_rfl) (by kernel_rfl) .nil .nil .nil
 (A:=List aj×List az) (B:=(D->Option D)×Int) (fun a b i=>qea a.1 a.2 b.1 b.2 i) (fun a=>a.2.length) (fun a i b=>a.2.length<=1000000/\GC b.1 (a.2.take i))
 (fun a x=> ∃f c,GC f a.2/\x=(.exit 2,⟨98,[(3,.ref 0 0 0)],vw0 a.1 a.2 f c⟩))
 (by
  rintro⟨g,o⟩ ⟨f,c⟩ i post h0 bN bg ⟨hm,hO⟩ hn ho
  dsimp only at*
  (rw[<-T1];delta Ag bT dF Hf Hn TU TV TX zs TY Lq T0 Zcj Zg eK IY G8 Ac oH cP r3 BE BJ Zc2 eu BK fu tE Zci Zn Za Z9 Zj vK K9)
  have e1:D.nth (o.map bh) i.toNat=bh o[i.toNat]:=ay _ _ _ bg
  have mv:=hO.go bg
  rw[e1]
  refine bJ bN (ak ⟨h0,bN⟩ (ak (by simpa using bg) (ao (jP _) (ak (by omega) (hn (_,_) ⟨hm,mv⟩))))))
 (by
  rintro⟨g,o⟩ ⟨f,c⟩ i post hi ⟨hm,hO⟩ ho
  dsimp only at*
  (rw[<-T1];delta Ag bT dF Hf Hn TU TV TX zs TY Lq T0 Zcj Zg eK IY G8 Ac oH cP r3 BE BJ Zc2 eu BK fu tE Zci Zn Za Z9 Zj vK K9)
  rw[zak] at hO
  exact lK (by omega) (ho _ (fun h=>by cases h) ⟨f,c,hO,rfl⟩))
 (by
  rintro s post ⟨g,o,rfl,hm,hp⟩
  refine⟨(g,o),(YW,0),rfl,⟨hm,GC.none⟩,?_⟩
  rintro x ⟨f,c,h1,rfl⟩
  exact hp f c h1)
theorem qee:LN w0 61 20 (ae (aL 61 20) T4):=LN.idx hX (H:=[]) (HN:=[(95,qd8)]) (hk:=[]) D0 (by kernel_rfl) (by kernel_rfl) (by kernel_rfl) .nil (.cons (qgW hX) .nil) .nil
 (A:=List aj×List az×(D->Option D)×Int) (B:=GaB) (fun a b i=>qeb a.1 a.2.1 a.2.2.1 a.2.2.2 b.1 b.2.1 b.2.2.1 b.2.2.2.1 b.2.2.2.2.1 b.2.2.2.2.2.1 b.2.2.2.2.2.2.1 b.2.2.2.2.2.2.2.1 b.2.2.2.2.2.2.2.2.1 b.2.2.2.2.2.2.2.2.2 i) (fun a=>a.1.length)
 (fun a i b=>(GC a.2.2.1 a.2.1/\a.1.length<=1000000/\ ∀x∈a.1,cx x=true)/\qZ (vV a.2.1 (a.1.take i)) b.2.2.1 b.2.2.2.1 b.2.2.2.2.1 b.2.2.2.2.2.1 b.2.2.2.2.2.2.1 b.2.2.2.2.2.2.2.1 b.2.2.2.2.2.2.2.2.1 b.2.2.2.2.2.2.2.2.2/\lM b.1 (DF (a.1.take i)))
 (fun a x=> ∃d n na np nh nl A P H L,qZ (vV a.2.1 a.1) na np nh nl A P H L/\lM d (DF a.1)/\x=(.exit 4,⟨98,[(3,.ref 0 0 0)],vwL a.1 a.2.1 a.2.2.1 a.2.2.2 d n na np nh nl A P H L⟩))
 (by
  rintro⟨g,o,f,c⟩ ⟨d,n,na,np,nh,nl,A,P,H,L⟩ i post h0 bN bg ⟨hc,hR,hD⟩ hn ho
  dsimp only at*
  (rw[<-T3];delta bT dF Hf bO YE D8 eT D9 eU Ag eK oH cP r3 BE Ts BJ eu BK fu tE Zcl Zn og BF Za Z9 Zj Z4f eY dK dL dM fJ Zck jg jh iB gK iU gN oQ I7 Zg gQ Ae oE oS Af ep fC tC vO Jj)
  have hB:=Bz (on:=o) hc.2.2 i.toNat (by omega)
  have hN:df (g.take i.toNat)<=300000000:=by
   have h1:=qj g i.toNat
   have h2:=DG hc.2.2
   have h3:=hc.2.1
   omega
  have e1:D.nth (g.map aU) i.toNat=aU g[i.toNat]:=ay _ _ _ bg
  have n9:=hc.2.2 _ (zas bg)
  have kC:=sY (on:=o) bg
  have NG:=NV bg
  rw[e1]
  generalize g[i.toNat]=x at n9 kC NG⊢
  refine bJ bN (ak ⟨h0,bN⟩ (ak (by simpa using bg) (ao (ft _) ⟨x,g,o,f,c,d,n,na,np,nh,nl,A,P,H,L,_,_,_,rfl,rfl,⟨hc.1,hR,hD,hB,hN,s5 n9,sZ n9⟩,fun d' n' oI oJ oK bt A' P' H' L' g1 g2=>ak (by omega) (hn (d',n',oI,oJ,oK,bt,A',P',H',L') ⟨hc,by rw[kC];exact g1,by rw[NG];exact g2⟩)⟩))))
 (by
  rintro⟨g,o,f,c⟩ ⟨d,n,na,np,nh,nl,A,P,H,L⟩ i post hi ⟨hc,hR,hD⟩ ho
  dsimp only at*
  (rw[<-T3];delta bT dF Hf bO YE D8 eT D9 eU Ag eK oH cP r3 BE Ts BJ eu BK fu tE Zcl Zn og BF Za Z9 Zj Z4f eY dK dL dM fJ Zck jg jh iB gK iU gN oQ I7 Zg gQ Ae oE oS Af ep fC tC vO Jj)
  rw[zak] at hR hD
  exact lK (by omega) (ho _ (fun h=>by cases h) ⟨d,n,na,np,nh,nl,A,P,H,L,hR,hD,rfl⟩))
 (by
  rintro s post ⟨g,o,f,c,rfl,hc,hp⟩
  refine⟨(g,o,f,c),(YW,0,0,0,0,0,[],[],[],[]),rfl,⟨hc,⟨rfl,rfl,rfl,rfl,rfl,rfl,rfl,rfl⟩,fun z=>rfl⟩,?_⟩
  rintro x ⟨d,n,na,np,nh,nl,A,P,H,L,g1,g2,rfl⟩
  exact hp d n na np nh nl A P H L g1 g2)
theorem qgY:ND w0 61 qec:=ND.mk hX (H:=[]) (HN:=[(94,qcV)]) (hk:=[(5,ae (aL 61 5) qd9),(15,ae (aL 61 15) T2),(20,ae (aL 61 20) T4)]) D0 (by kernel_rfl) (by kernel_rfl) .nil (.cons (qii hX) .nil) (.loop (by decide) (qgX hX).T (.loop (by decide) (qed hX).T (.loop (by decide) (qee hX).T .nil))) (by
 intro ps R post hh
 obtain⟨l,rfl,rfl,hs,hp⟩:=hh
 (rw[<-qiN];delta bO YE D8 eT D9 eU Ag eK oH cP r3 BE Ts BJ eu BK fu tE Zcl bT ZaK mx Hn TU TV TX zs TY Lq T0 Zcj Zc2 Zci Z7 og BF dF Zco rN M9 YX Zcn fN qi Zx qh nV Z6h vU Ap Ot Zc3 zt fC Dl cX ZbZ Zcm)
 have hl:=hs.1
 have h1:=wN l
 have h2:=dI l
 refine⟨l,rfl,hs,fun g h hg hh=> ?_⟩
 have tk1:List.take h.length ((h.map fun x=>x.1).map bh)=(h.map fun x=>x.1).map bh:=zai (by simp)
 have tk2:List.take h.length ((h.map fun x=>x.2).map bh)=(h.map fun x=>x.2).map bh:=zai (by simp)
 rw[tk1,tk2]
 refine⟨h,rfl,rfl,by rw[hh,zaa,hg];omega,fun o ho=> ?_⟩
 have gf:o=M6 l:=by rw[ho,hh,hg];rfl
 exact⟨g,o,rfl,by rw[gf];omega,fun f c hf=>⟨g,o,f,c,rfl,⟨hf,by rw[hg];omega,by rw[hg];exact rI⟩,fun d n na np nh nl A P H L g1 g2=>hp g o f c d n na np nh nl A P H L hg gf hf g1 g2⟩⟩)
theorem qbh:ND w0 35 JI:=ND.mk hX (H:=[]) (HN:=[(61,qec)]) (hk:=[]) D0 (by kernel_rfl) (by kernel_rfl) .nil (.cons (qgY hX) .nil) .nil (by
 intro ps R post hh
 obtain⟨l,rfl,rfl,hs,hp⟩:=hh
 (rw[<-qgV];delta eK oH Nd eu zq Zx cP cX D7)
 exact⟨l,rfl,rfl,hs,fun g o f c d n na np nh nl A P H L _ ho _ _ _=>hp o ho⟩)
end
theorem T5 {l:List aj} {t:Tl} (hc: ∀g∈l,cx g=true) (hn:(l.map (·.s)).Nodup):(TQ l t).length<=t.a.length:=
 zaI (Dz hc hn _) (zaI (Dy _) (wI _ _))
section
variable {X:XF}
theorem YY:LD X 32 7 (ae (aL 32 7) qd7):=LD.idx (H:=[(42,Gs)]) (hk:=[(11,ae (aL 32 11) TD)]) (by kernel_rfl) (by kernel_rfl) (.cons SO .nil) (.cons TJ .nil)
 (A:=List aj×List az) (B:=OfB) (fun a b i=>of7 a.1 a.2 b.1 b.2.1 b.2.2.1 b.2.2.2.1 b.2.2.2.2.1 b.2.2.2.2.2.1 b.2.2.2.2.2.2.1 b.2.2.2.2.2.2.2 i) (fun a=>a.1.length)
 (fun a i b=>(a.1.length<=1000000/\a.2.length<=1000000/\ ∀g∈a.1,cx g=true)/\qZ (vV a.2 (a.1.take i)) b.1 b.2.1 b.2.2.1 b.2.2.2.1 b.2.2.2.2.1 b.2.2.2.2.2.1 b.2.2.2.2.2.2.1 b.2.2.2.2.2.2.2)
 (fun a x=> ∃na np nh nl A P H L,qZ (vV a.2 a.1) na np nh nl A P H L/\x=(.exit 0,⟨140,[(0,.sl 0 0 a.1.length),(2,.ref 1 0 0),(3,.ref 7 0 0),(4,.sl 13 0 na),(5,.sl 14 0 np)],ofR a.1 a.2 nh nl A P H L⟩))
 (by
  rintro⟨m,o⟩ ⟨na,np,nh,nl,A,P,H,L⟩ i post h0 bN bg ⟨hc,hR⟩ hn ho
  try dsimp only at*
  rw[<-qbe]
  have hB:=Bz (on:=o) hc.2.2 i.toNat (by omega)
  have hN:df (m.take i.toNat)<=300000000:=by
   have h1:=qj m i.toNat
   have h2:=DG hc.2.2
   have h3:=hc.1
   omega
  have e1:D.nth (m.map aU) i.toNat=aU m[i.toNat]:=ay _ _ _ bg
  have n9:=hc.2.2 _ (zas bg)
  have kC:=sY (on:=o) bg
  rw[e1]
  refine bJ bN (ak ⟨h0,bN⟩ (ak (by rw[zaa];exact bg) (ao (ft _) ⟨o,m[i.toNat].s,rfl,rfl,hc.2.1,fun b hb=>⟨m,o,na,np,nh,nl,A,P,H,L,i,b,_,_,bg,rfl,⟨hR,hB,hN,h0,s5 n9,sZ n9⟩,fun oI oJ oK bt A' P' H' L' g1=>ak (by omega) (hn (oI,oJ,oK,bt,A',P',H',L') ⟨hc,by rw[kC];unfold tlG;rw[<-hb];exact g1⟩)⟩⟩))))
 (by
  rintro⟨m,o⟩ ⟨na,np,nh,nl,A,P,H,L⟩ i post hi ⟨hc,hR⟩ ho
  try dsimp only at*
  rw[<-qbe]
  rw[zak] at hR
  exact lK (by omega) (ho _ (fun h=>by cases h) ⟨na,np,nh,nl,A,P,H,L,hR,rfl⟩))
 (by
  rintro s post ⟨m,o,rfl,hc,hp⟩
  refine⟨(m,o),(0,0,0,0,[],[],[],[]),rfl,⟨hc,⟨rfl,rfl,rfl,rfl,rfl,rfl,rfl,rfl⟩⟩,?_⟩
  rintro x ⟨na,np,nh,nl,A,P,H,L,g1,rfl⟩
  exact hp na np nh nl A P H L g1)
theorem qef:FD X 32 TR:=FD.mk (H:=[(40,vN),(44,qdt),(53,qdw),(55,qdX),(54,Tw),(57,SM),(56,Dw)]) (hk:=[(7,ae (aL 32 7) qd7)]) (by kernel_rfl) (.cons RI (.cons qgr (.cons qgs (.cons qgN (.cons qd2 (.cons qdq (.cons SA .nil))))))) (.cons YY .nil) (by
 intro ps R post hh
 obtain⟨l,rfl,rfl,hs,hp⟩:=hh
 (rw[<-qiM];delta eK eu TM gq ia TO BB An ZaK fu mx jR ZaL cP cX im ZbO pS lB lJ rN zs Lq Vk Ty Hn NJ oH NK YO YP NL NM NN NP vU Ap NQ NR Z7 Js Ho iC Hp oF tB ZbQ fN qi Z8H Jk ZbP Zx D7)
 have hl:=hs.1.1
 have h1:=wN l
 have h2:=dI l
 have n9: ∀g∈aH l,cx g=true:=rI
 have ky:=nS l
 have Aq:df (aH l)<=1000:=zaI (Jm l) hs.2
 refine⟨l,rfl,rfl,hs.1,fun m hm=> ?_⟩
 have tm:List.take m.length (m.map aU)=m.map aU:=zai (by simp)
 rw[tm]
 refine⟨m,rfl,rfl,by rw[hm];omega,fun h hh=> ?_⟩
 have th:List.take h.length (h.map bL)=h.map bL:=zai (by simp)
 rw[th]
 refine⟨h,rfl,rfl,by rw[hh,zaa,hm];omega,fun o ho=> ?_⟩
 have gf:o=M6 l:=by rw[ho,hh,hm];rfl
 refine⟨m,o,rfl,⟨by rw[hm];omega,by rw[gf];omega,by rw[hm];exact n9⟩,fun na np nh nl A P H L hR=> ?_⟩
 have hB:=Bz (on:=o) (l:=m) (by rw[hm];exact n9) m.length (zaj _)
 rw[zak,hm] at hB
 have kq:=hB.mono Aq
 rw[hm] at hR
 obtain⟨t,ht⟩: ∃t,t=vV o (aH l):=⟨_,rfl⟩
 rw[<-ht] at hR kq
 obtain⟨rfl,rfl,rfl,rfl,rfl,rfl,rfl,rfl⟩:=hR
 have ta:List.take t.a.length (t.a.map bB)=t.a.map bB:=zai (by simp)
 have tp:List.take t.p.length (t.p.map bI)=t.p.map bI:=zai (by simp)
 have thh:List.take t.h.length (t.h.map jz)=t.h.map jz:=zai (by simp)
 have tg:List.take t.g.length (t.g.map jz)=t.g.map jz:=zai (by simp)
 have tn:List.take o.length (o.map bh)=o.map bh:=zai (by simp)
 have tk: ∀{α:Type} (f:α->D) (l:List α),List.take l.length (l.map f)=l.map f:=fun f l=>zai (by simp)
 have b1:=kq.1
 have b2:=kq.2.1
 have b3:=kq.2.2.1
 have b4:=kq.2.2.2
 rw[ta,tp,thh,tg,tn,tm]
 refine⟨t.a,t.p,rfl,rfl,⟨by omega,b1.symm⟩,fun q hq=> ?_⟩
 rw[tk bI q]
 have hql:q.length<=t.a.length:=by rw[hq];exact zaI (Dy _) (wI _ _)
 refine⟨m,q,rfl,rfl,⟨by omega,by rw[hm];omega,by rw[hm];exact n9,by rw[hm];exact ky⟩,fun p Pd=>⟨t.h,t.g,rfl,rfl,⟨by omega,by omega⟩,fun v hv=> ?_⟩⟩
 rw[tk bI p,tk bB v]
 have Xe:p=TQ (aH l) t:=by rw[Pd,hq,hm];rfl
 have LV:p.length<=t.a.length:=by rw[Xe];exact T5 n9 ky
 have hvl:v.length<=t.h.length:=by rw[hv];exact Lm _ _
 refine⟨p,v,rfl,rfl,⟨by omega,by omega⟩,?_⟩
 rw[tk fw]
 exact hp o t p (jQ (oO p) v) gf ht Xe (by rw[Xe,hv];rfl))
end
structure bQ (i:Int) (l:List aj):Prop where
 JL: ∀g∈l,cx g=true
 nd:(l.map (·.s)).Nodup
 sm: ∀g∈l,(1<=g.s.2/\g.s.2<=3)/\(g.s.1<=i/\g.n<=i)/\g.ops.length<=1/\ ∀o∈g.ops,o.text.length<=2/\o.elems.length<=3
 len:(l.length:Int)<=i
structure oi (i:Int) (l:List aj) (K:List (List Int)):Prop where
 len:K.length=3
 vec: ∀v∈K,db v=true/\ ∀r,eo v r<=i
 own: ∀g∈l,g.n<=eo (K.getD (g.s.2-1).toNat []) g.s.2
 top: ∀v∈K,∀r,1<=r->r<=3->eo v r<=eo (K.getD (r-1).toNat []) r
structure jA (i:Int) (K:List (List Int)) (r:Int) (v:List Int):Prop where
 vec:db v=true/\ ∀q,eo v q<=i
 own:eo v r=eo (K.getD (r-1).toNat []) r
 top: ∀q,1<=q->q<=3->eo v q<=eo (K.getD (q-1).toNat []) q
def aS (l:List aj) (v:List Int):List aj:=l.filter fun g=>decide (g.n<=eo v g.s.2)
theorem yV {v:List Int} (h:db v=true) (r:Int):0<=eo v r:=by
 unfold db at h
 rw[zah] at h
 unfold eo
 split
 ·exact zby _
 ·rw[zac]
  cases hk:v[(r-1).toNat]? with
  |none=>exact zby _
  |some x=>exact h.1 x (zaC hk)
theorem nY {v:List Int} (h:db v=true):v.length<=16:=by
 unfold db at h
 rw[zah] at h
 exact h.2.1
theorem ux {v:List Int} (h1: ∀n∈v,0<=n) (h2:v.length<=16):db (bp v)=true:=by
 unfold db
 rw[zah]
 refine⟨fun n hn=>h1 n (zbp hn),?_,by rw[FA]⟩
 rw[nN]
 have:=pF v v.length
 omega
theorem BM (v:List Int) (r:Int):eo (bp v) r=eo v r:=by
 by_cases h:1<=r
 ·rw[lT _ h,lT _ h,yb]
 ·unfold eo
  rw[zao (by omega),zao (by omega)]
theorem YZ {n:Nat} {f:Nat->Int} {r:Int} (h:1<=r):eo (oA n f) r=if(r-1).toNat<n then f (r-1).toNat else 0:=by
 rw[lT _ h,sN]
theorem rU {n:Nat} {f:Nat->Int} (h: ∀i,0<=f i): ∀x∈oA n f,0<=x:=by
 intro x hx
 unfold oA at hx
 obtain⟨i,_,rfl⟩:=zaA.1 hx
 exact h i
theorem Y0 {v:List Int} {r n:Int} (h1:1<=r) (q:Int) (hq:1<=q):eo (bp (gI v r n)) q=if q=r then n else eo v q:=by
 rw[BM]
 unfold gI
 rw[YZ hq]
 have e:(((q-1).toNat:Nat):Int)+1=q:=by omega
 simp only[e]
 split
 ·rfl
 ·rename_i h
  rw[zam (by omega),lT _ hq,nO (by omega)]
theorem Lz {v:List Int} {q:Int} (h:q<1):eo v q=0:=by
 unfold eo
 rw[zao (by omega)]
theorem T6 {v:List Int} {r n:Int} (hv:db v=true) (h1:1<=r) (h2:r<=16) (hn:0<=n):db (bp (gI v r n))=true:=by
 refine ux (rU fun i=> ?_) ?_
 ·split
  ·exact hn
  ·exact yV hv _
 ·unfold gI
  rw[Fw]
  have:=nY hv
  omega
theorem yW (v w:List Int) (q:Int) (hq:1<=q):eo (mg v w) q=max (eo v q) (eo w q):=by
 unfold mg
 rw[BM,lT _ hq,Qu,<-lT _ hq,<-lT _ hq]
theorem BN {v w:List Int} (hv:db v=true) (hw:db w=true):db (mg v w)=true:=by
 refine ux (rU fun i=> ?_) ?_
 ·have:=yV hv ((i:Int)+1)
  omega
 ·unfold Wz
  rw[Fw]
  have:=nY hv
  have:=nY hw
  omega
theorem jA.start {i:Int} {l:List aj} {K:List (List Int)} (h:oi i l K) {r:Int} (h1:1<=r) (h2:r<=3):jA i K r (K.getD (r-1).toNat []):=by
 have hm:K.getD (r-1).toNat []∈K:=by
  rw[zac,zae (by rw[h.len];omega)]
  exact zas _
 exact⟨h.vec _ hm,rfl,fun q h3 h4=>h.top _ hm q h3 h4⟩
theorem jA.merge {i:Int} {l:List aj} {K:List (List Int)} (h:oi i l K) {r:Int} (h1:1<=r) (h2:r<=3) {v w:List Int} (hv:jA i K r v) (hw:w∈K):jA i K r (mg v w):=by
 have hww:=h.vec _ hw
 refine⟨⟨BN hv.vec.1 hww.1,fun q=> ?_⟩,?_,fun q h3 h4=> ?_⟩
 ·by_cases hq:1<=q
  ·rw[yW _ _ _ hq]
   have:=hv.vec.2 q
   have:=hww.2 q
   omega
  ·have:=hww.2 q
   rw[Lz (by omega)] at this⊢
   exact this
 ·rw[yW _ _ _ h1,<-hv.own]
  have:=h.top _ hw r h1 h2
  rw[<-hv.own] at this
  omega
 ·rw[yW _ _ _ h3]
  have:=h.top _ hw q h3 h4
  have:=hv.top q h3 h4
  omega
def fP (l:List aj) (v:List Int) (r:Int):az:=(mQ (aS l v)+1,r)
structure yX (l:List aj) (v:List Int) (r:Int) (g:aj):Prop where
 s:g.s=fP l v r
 n:g.n=eo v r+1
 deps:g.deps=v
 body:(∃x∈aS l v,g.b7=x.s/\g.ops=[])\/(g.b7=(0,0)/\ ∃o m,g.ops=[o]/\kh g.s 0 o=some m/\o.text.length<=2/\o.elems.length<=3)
theorem DH {s:az}:IP s=true↔1<=s.1/\s.1<=1099511627776/\1<=s.2/\s.2<=16:=by
 show tU s.1 s.2=true↔_
 unfold tU
 rw[zah]
theorem wO {a b:az}:lG a b=true↔a.1<b.1\/a.1=b.1/\a.2<b.2:=by
 show rD a.1 a.2 b.1 b.2=true↔_
 unfold rD
 rw[zah]
theorem DI {g:aj} (h:cx g=true):IP g.s=true/\(1<=g.n/\g.n<=1099511627776)/\db g.deps=true/\eo g.deps g.s.2=g.n-1:=by
 unfold cx Vb at h
 simp only[zab,zah,zaS] at h
 exact⟨h.1.1.1.1,h.1.1.1.2,h.1.1.2,h.1.2⟩
theorem iY {l:List aj} {v:List Int} {g:aj}:g∈aS l v↔g∈l/\g.n<=eo v g.s.2:=by
 unfold aS
 rw[zb3,zah]
theorem bQ.mQ {i:Int} {l:List aj} (h:bQ i l) (hi:0<=i) (v:List Int):0<=mQ (aS l v)/\mQ (aS l v)<=i:=
 ⟨(pN _).1,Jg hi _ fun g hg=>(h.sm g (iY.1 hg).1).2.1.1⟩
theorem yX.JL {i:Int} {l:List aj} {K:List (List Int)} {v:List Int} {r:Int} {g:aj} (hl:bQ i l) (hi:0<=i/\i<=1000) (h1:1<=r) (h2:r<=3) (hv:jA i K r v) (h:yX l v r g):cx g=true:=by
 have hm:=hl.mQ hi.1 v
 have ha:=yV hv.vec.1 r
 have hb:=hv.vec.2 r
 have hs:g.s.1=mQ (aS l v)+1/\g.s.2=r:=by rw[h.s];exact⟨rfl,rfl⟩
 unfold cx Vb
 have hh:(IP g.s&&decide (1<=g.n/\g.n<=1099511627776)&&db g.deps&&(eo g.deps g.s.2==g.n-1))=true:=by
  rw[h.deps,h.n,hv.vec.1,hs.2]
  simp only[zab,zah,zaS,zdc]
  refine⟨⟨DH.2 (by omega),by omega⟩,by omega⟩
 rw[hh,zaQ]
 rcases h.body with⟨x,hx,hu,ho⟩| ⟨hu,o,m,ho,EC,_⟩
 ·have zY:=iY.1 hx
  have hr:=(DI (hl.JL x zY.1)).1
  have hr2:=DH.1 hr
  have hx3:=(pN (aS l v)).2 x hx
  rw[hu,zao (fun e=>by have:=congrArg Prod.fst e;simp only at this;omega),hr,ho]
  simp only[zaQ,zat,zbG,zbt]
  exact wO.2 (.inl (by omega))
 ·rw[hu,zam (by simp),ho]
  simp only[zap,zat,iT,EC,zbt,zah]
  omega
theorem yX.new {i:Int} {l:List aj} {K:List (List Int)} {v:List Int} {r:Int} {g:aj} (_:bQ i l) (hK:oi i l K) (hv:jA i K r v) (_:yX l v r g): ∀x∈l,x.s.2=r->x∈aS l v:=by
 intro x hx hr
 refine iY.2 ⟨hx,?_⟩
 have:=hK.own x hx
 rw[hr] at this⊢
 rw[hv.own]
 exact this
theorem yX.qcn {i:Int} {l:List aj} {K:List (List Int)} {v:List Int} {r:Int} {g:aj} (hl:bQ i l) (hK:oi i l K) (hi:0<=i/\i<=1000) (h1:1<=r) (h2:r<=3) (hv:jA i K r v) (h:yX l v r g):
  bQ (i+1) (l++[g])/\oi (i+1) (l++[g]) (K.set (r-1).toNat (bp (gI v r (eo v r+1)))):=by
 have hm:=hl.mQ hi.1 v
 have ha:=yV hv.vec.1 r
 have hb:=hv.vec.2 r
 have hs:g.s.1=mQ (aS l v)+1/\g.s.2=r:=by rw[h.s];exact⟨rfl,rfl⟩
 have hgn:=h.n
 have hc:=h.JL hl hi h1 h2 hv
 have hw:db (bp (gI v r (eo v r+1)))=true:=T6 hv.vec.1 h1 (by omega) (by omega)
 have hwa:=fun q hq=>Y0 (v:=v) (n:=eo v r+1) h1 q hq
 have hlen:=hK.len
 have pc: ∀q:Int,1<=q->q<=3->(K.set (r-1).toNat (bp (gI v r (eo v r+1)))).getD (q-1).toNat []=if q=r then bp (gI v r (eo v r+1)) else K.getD (q-1).toNat []:=by
  intro q h3 h4
  rw[zac]
  split
  ·rename_i e
   rw[e,zbO (by omega)]
   rfl
  ·rename_i e
   rw[zaW (by omega),zac]
 refine⟨⟨?_,?_,?_,?_⟩,⟨by simp[hlen],?_,?_,?_⟩⟩
 ·intro x hx
  rcases zaG.1 hx with hx |hx
  ·exact hl.JL x hx
  ·rw[zbf.1 hx]
   exact hc
 ·rw[zaB,za0]
  refine⟨hl.nd,by simp,fun a ha2 b cm e=> ?_⟩
  simp only[zbl,List.map_nil,zbf] at cm
  subst cm
  obtain⟨x,hx,hxe⟩:=zaA.1 ha2
  have VK:x.s=g.s:=hxe.trans e
  have hk:=h.new hl hK hv x hx (by rw[VK];exact hs.2)
  have:=(pN (aS l v)).2 x hk
  rw[VK] at this
  omega
 ·intro x hx
  rcases zaG.1 hx with hx |hx
  ·obtain⟨a,b,c⟩:=hl.sm x hx
   exact⟨a,by omega,c⟩
  ·rw[zbf.1 hx]
   refine⟨by omega,by omega,?_⟩
   rcases h.body with⟨y,_,_,ho⟩| ⟨_,o,m,ho,_,h5,h6⟩
   ·rw[ho]
    exact⟨by simp,fun o ho=>by cases ho⟩
   ·rw[ho]
    exact⟨by simp,fun o' gf=>by rw[zbf.1 gf];exact⟨h5,h6⟩⟩
 ·have:=hl.len
  rw[zan,List.length_singleton]
  omega
 ·intro u hu
  rcases zc6 hu with hu |rfl
  ·exact⟨(hK.vec u hu).1,fun q=>by have:=(hK.vec u hu).2 q;omega⟩
  ·refine⟨hw,fun q=> ?_⟩
   by_cases hq:1<=q
   ·rw[hwa q hq]
    have:=hv.vec.2 q
    split<;>omega
   ·rw[Lz (by omega)]
    omega
 ·intro x hx
  rcases zaG.1 hx with hx |hx
  ·obtain⟨a,_,_⟩:=hl.sm x hx
   rw[pc _ a.1 a.2]
   have h3:=hK.own x hx
   split
   ·rename_i e
    rw[e,hwa r h1,zao rfl]
    rw[e,<-hv.own] at h3
    omega
   ·exact h3
  ·rw[zbf.1 hx,hs.2,pc r h1 h2,zao rfl,hwa r h1,zao rfl]
   omega
 ·intro u hu q h3 h4
  rw[pc q h3 h4]
  rcases zc6 hu with hu |rfl
  ·have h5:=hK.top u hu q h3 h4
   split
   ·rename_i e
    rw[hwa q h3,zao e]
    rw[e] at h5⊢
    rw[<-hv.own] at h5
    omega
   ·exact h5
  ·split
   ·exact zby _
   ·rename_i e
    rw[hwa q h3,zam e]
    exact hv.top q h3 h4
theorem T7:bQ 0 []/\oi 0 [] [[],[],[]]:=by
 refine⟨⟨(fun _ h=>by cases h),by simp,(fun _ h=>by cases h),by simp⟩,⟨rfl,?_,(fun _ h=>by cases h),?_⟩⟩
 ·intro v hv
  have:v=[]:=by simpa using hv
  subst this
  refine⟨by decide,fun r=> ?_⟩
  unfold eo
  split<;>simp
 ·intro v hv r h1 h2
  have:v=[]:=by simpa using hv
  subst this
  have e:eo [] r=0:=by
   unfold eo
   split<;>simp
  have h3:([[],[],[]]:List (List Int)).getD (r-1).toNat []=[]:=by
   have key: ∀n:Nat,([[],[],[]]:List (List Int)).getD n []=[]:=fun n=>by
    match n with
    |0=>rfl
    |1=>rfl
    |2=>rfl
    |_+3=>rfl
   exact key _
  rw[h3]
  exact zby _
theorem op1 {i:Int} {l:List aj} (hl:bQ i l) {g:aj} (hg:g∈l) {o:aW} (ho:o∈g.ops): ∃m,kh g.s 0 o=some m:=by
 have h1:=(hl.sm g hg).2.2.1
 have h2:=Dt (hl.JL g hg)
 cases Aq:g.ops with
 |nil=>rw[Aq] at ho;cases ho
 |cons a r=>
  rw[Aq] at h1 ho h2
  have hr:r=[]:=by simpa using h1
  subst hr
  rw[zbf.1 ho]
  unfold iT at h2
  split at h2
  ·exact⟨_,by assumption⟩
  ·cases h2
theorem T8 {s t:az} {k:Int} (ht:IP t=true) (bG:t.1<s.1) (h0:0<=k) (hk:k<=400000):cU s 0 (t.1,t.2,k)=true:=by
 have:=DH.1 ht
 unfold cU
 rw[zab,za9]
 refine⟨?_,.inl (wO.2 (.inl bG))⟩
 show cp t.1 t.2 k=true
 unfold cp
 rw[zah]
 omega
def ie (l:List aj) (x:au):Prop:= ∃g∈l,FQ x=g.s/\0<=x.2.2/\x.2.2<=1000
theorem ie.ahead {i:Int} {l:List aj} (hl:bQ i l) {v:List Int} {r:Int} {x:au} (h:ie (aS l v) x):cU (fP l v r) 0 x=true:=by
 obtain⟨g,hg,hs,h0,h1⟩:=h
 have hg2:=iY.1 hg
 have:=(pN (aS l v)).2 g hg
 have hrg:=(DI (hl.JL g hg2.1)).1
 have Ch:x.1=g.s.1:=congrArg Prod.fst hs
 have zY:x.2.1=g.s.2:=congrArg Prod.snd hs
 have hh:=T8 (s:=fP l v r) hrg (show g.s.1<mQ (aS l v)+1 by omega) h0 (by omega)
 obtain⟨a,b,c⟩:=x
 simp only at Ch zY
 rw[Ch,zY]
 exact hh
theorem ie.par {i:Int} {l:List aj} (hl:bQ i l) {v:List Int} {r:Int} {x:au} (h:x=aA\/ie (aS l v) x):lH (fP l v r) 0 x=true:=by
 unfold lH
 rcases h with rfl |h
 ·simp
 ·rw[h.ahead hl,Bool.or_true]
theorem T9 {i:Int} {l:List aj} (hl:bQ i l) {g:aj} (hg:g∈l) {o:aW} (ho:o∈g.ops) (hk:o.kind=0):ie l o.node:=by
 obtain⟨m,hm⟩:=op1 hl hg ho
 obtain⟨h1,_⟩:=Gr hm hk
 exact⟨g,hg,by rw[h1],by rw[h1];exact zby _,by rw[h1];show(0:Int)<=1000;decide⟩
theorem LA {s:az} {k n:Int} {o:aW} (h:kh s k o=some n) (h0:o.kind=3):o.elem=(s.1,s.2,k):=by
 unfold kh at h
 rw[zam (by omega: ¬o.kind=0),zam (by omega: ¬o.kind=1),zam (by omega: ¬o.kind=2),zao h0] at h
 split at h
 ·cases h
 ·split at h
  ·rename_i hh
   exact hh.2.2.1
  ·cases h
theorem Ua {i:Int} {l:List aj} (hl:bQ i l) {g:aj} (hg:g∈l) {o:aW} (ho:o∈g.ops) (hk:o.kind=3) {k:Int} (h0:0<=k) (h1:k<=1000):ie l (o.elem.1,o.elem.2.1,o.elem.2.2+k):=by
 obtain⟨m,hm⟩:=op1 hl hg ho
 have h2:=LA hm hk
 rw[h2]
 exact⟨g,hg,rfl,by show 0<=0+k;omega,by show 0+k<=1000;omega⟩
def GD (s:az) (p:au) (nm:List UInt8) (d:Bool):aW:=⟨0,(s.1,s.2,0),p,nm,d,[],aA,aA,[],[]⟩
def Ub (x p:au) (nm:List UInt8):aW:=⟨1,x,p,nm,false,[],aA,aA,[],[]⟩
def Uc (x:au) (d:List az):aW:=⟨2,x,aA,[],false,d,aA,aA,[],[]⟩
def Y1 (s:az) (x a:au) (t:List UInt8):aW:=⟨3,x,aA,[],false,[],a,(s.1,s.2,0),t,[]⟩
def Y2 (x:au) (e:List au):aW:=⟨4,x,aA,[],false,[],aA,aA,[],e⟩
section
variable {i:Int} {l:List aj} (hl:bQ i l) {v:List Int} {r:Int}
include hl
theorem LB {p:au} (hp:p=aA\/ie (aS l v) p) {nm:List UInt8} (hn:dH nm=true) (d:Bool):kh (fP l v r) 0 (GD (fP l v r) p nm d)=some 1:=by
 have h1:=ie.par hl (r:=r) hp
 simp[kh,GD,fq,jX,h1,hn]
theorem Y3 {x p:au} (hx:ie (aS l v) x) (hp:p=aA\/ie (aS l v) p) {nm:List UInt8} (hn:dH nm=true):kh (fP l v r) 0 (Ub x p nm)=some 0:=by
 have h1:=ie.par hl (r:=r) hp
 have h2:=hx.ahead hl (r:=r)
 simp[kh,Ub,fq,jX,h1,h2,hn]
theorem Y4 {x:au} (hx:ie (aS l v) x) {d:List az} (hd: ∀s∈d,∃g∈aS l v,g.s=s) (hs:d.Pairwise fun a b=>lG a b=true) (hln:d.length<=200):kh (fP l v r) 0 (Uc x d)=some 0:=by
 have h2:=hx.ahead hl (r:=r)
 have h3:mN (fP l v r) d=true:=by
  unfold mN
  rw[zab,zah]
  refine⟨ua fun k hk=> ?_,hln⟩
  unfold lI
  have hg:d.getD k (0,0)=d[k]:=by rw[zac,zae hk];rfl
  obtain⟨g,hgm,hgs⟩:=hd _ (zas hk)
  have hg2:=iY.1 hgm
  have h4:=(pN (aS l v)).2 g hgm
  rw[hg,<-hgs]
  rw[zab,zab,za9]
  refine⟨⟨(DI (hl.JL g hg2.1)).1,?_⟩,?_⟩
  ·rw[zbs,<-zaV,wO]
   show ¬(mQ (aS l v)+1<g.s.1\/mQ (aS l v)+1=g.s.1/\r<g.s.2)
   omega
  ·by_cases h0:k=0
   ·exact .inl (by simp[h0])
   ·refine .inr ?_
    have GR:d.getD (k-1) (0,0)=d[k-1]:=by rw[zac,zae (by omega)];rfl
    rw[GR,hgs]
    exact zbi.1 hs (k-1) k (by omega) hk (by omega)
 simp[kh,Uc,fq,jX,h2,h3]
theorem Y5 {x a:au} (hx:ie (aS l v) x) (ha:a=aA\/ie (aS l v) a) {t:List UInt8} (ht:mO t=true):kh (fP l v r) 0 (Y1 (fP l v r) x a t)=some (z6 t):=by
 have h1:=ie.par hl (r:=r) ha
 have h2:=hx.ahead hl (r:=r)
 simp[kh,Y1,fq,jX,h1,h2,ht]
theorem Y6 {x:au} (hx:ie (aS l v) x) {e:List au} (he: ∀y∈e,ie (aS l v) y) (hs:e.Pairwise fun a b=>mh a b=true) (h1:1<=e.length) (h3:e.length<=3):kh (fP l v r) 0 (Y2 x e)=some 0:=by
 have h2:=hx.ahead hl (r:=r)
 have h4:sR (fP l v r) 0 e=true:=by
  unfold sR
  rw[zab,zah]
  refine⟨ua fun k hk=> ?_,by omega⟩
  unfold Bl
  have hg:e.getD k aA=e[k]:=by rw[zac,zae hk];rfl
  rw[hg,zab,za9]
  refine⟨(he _ (zas hk)).ahead hl,?_⟩
  by_cases h0:k=0
  ·exact .inl (by simp[h0])
  ·refine .inr ?_
   have GR:e.getD (k-1) aA=e[k-1]:=by rw[zac,zae (by omega)];rfl
   rw[GR]
   exact zbi.1 hs (k-1) k (by omega) hk (by omega)
 simp[kh,Y2,fq,jX,h2,h4]
end
abbrev bM:=au×au×List UInt8
abbrev gM:=au×au×List UInt8
def pV (t:List UInt8):List (List UInt8):=if Lib.validD t=true then G7 t else []
def zy (r:bM) (k:Nat):au:=(r.2.1.1,r.2.1.2.1,r.2.1.2.2+k)
def Y7 (r:bM):Nat->au
 |0=>r.1
 |k+1=>zy r k
def Ud (o:List gM) (x a:au) (p:List UInt8):List gM:=if x=aA\/(o.any fun e=>e.1==x)=true then o else o++[(x,a,p)]
def LC (r:bM) (o:List gM) (l:List (List UInt8)):List gM:=l.zipIdx.foldl (fun o p=>Ud o (zy r p.2) (Y7 r p.2) p.1) o
def elR (o:List gM) (r:bM):List gM:=LC r o (pV r.2.2)
def GF (l:List bM):List gM:=l.foldl elR []
theorem yY {r:bM} {o:List gM} {l:List (List UInt8)} {i:Nat} (h:i<l.length):LC r o (l.take (i+1))=Ud (LC r o (l.take i)) (zy r i) (Y7 r i) l[i]:=by
 unfold LC
 rw[zag h,List.zipIdx_append,za1]
 simp[zay,zcd (Nat.le_of_lt h)]
theorem yZ {l:List bM} {i:Nat} (h:i<l.length):GF (l.take (i+1))=elR (GF (l.take i)) l[i]:=by
 unfold GF
 rw[zag h,za1]
 rfl
theorem Y8 (o:List gM) (x a:au) (p:List UInt8):(Ud o x a p).length<=o.length+1:=by
 unfold Ud
 split
 ·omega
 ·simp
theorem DJ {r:bM} {o:List gM} {l:List (List UInt8)}: ∀i,i<=l.length->(LC r o (l.take i)).length<=o.length+i
 |0,_=>by simp[LC]
 |i+1,hi=>by
  rw[yY (by omega)]
  have:=Y8 (LC r o (l.take i)) (zy r i) (Y7 r i) (l[i]'(by omega))
  have:=DJ (r:=r) (o:=o) (l:=l) i (by omega)
  omega
def GG (R:List bM) (o:List gM):Prop:=(o.map (·.1)).Nodup/\ ∀e∈o,e.1≠aA/\ ∃r∈R,∃k,k<(pV r.2.2).length/\e.1=zy r k/\e.2.1=Y7 r k
theorem GG.step {R:List bM} {o:List gM} (h:GG R o) {r:bM} (hr:r∈R) {k:Nat} (hk:k<(pV r.2.2).length) (p:List UInt8):GG R (Ud o (zy r k) (Y7 r k) p):=by
 unfold Ud
 split
 ·exact h
 ·rename_i hn
  refine⟨?_,fun e he=> ?_⟩
  ·rw[zaB,za0]
   refine⟨h.1,by simp,fun a ha b hb e=> ?_⟩
   rw[show b=zy r k by simpa using hb] at e
   obtain⟨y,hy,hye⟩:=zaA.1 ha
   exact hn (.inr (zbx.2 ⟨y,hy,by simpa using hye.trans e⟩))
  ·rcases zaG.1 he with he |he
   ·exact h.2 e he
   ·rw[zbf.1 he]
    exact⟨fun e=>hn (.inl e),r,hr,k,hk,rfl,rfl⟩
theorem GG.run {R:List bM} {o:List gM} (h:GG R o) {r:bM} (hr:r∈R): ∀i,i<=(pV r.2.2).length->GG R (LC r o ((pV r.2.2).take i))
 |0,_=>by simpa [LC] using h
 |i+1,hi=>by
  rw[yY (by omega)]
  exact(GG.run h hr i (by omega)).step hr (by omega) _
theorem JM {l:List bM}: ∀i,i<=l.length->GG l (GF (l.take i))
 |0,_=>⟨by simp[GF],fun e he=>by simp[GF] at he⟩
 |i+1,hi=>by
  rw[yZ (by omega)]
  have:=(JM (l:=l) i (by omega)).run (zas (show i<l.length by omega)) (pV (l[i]'(by omega)).2.2).length (zaj _)
  rwa [zak] at this
def Hq (l:List bM):Nat:=(l.map fun r=>(pV r.2.2).length).sum
theorem BO {l:List bM} {i:Nat} (h:i<l.length):Hq (l.take (i+1))=Hq (l.take i)+(pV l[i].2.2).length:=by
 unfold Hq
 rw[zag h,zaB,List.sum_append]
 simp only[zbl,List.map_nil,List.sum_cons,List.sum_nil,zbQ]
theorem Ue (l:List bM) (i:Nat):Hq (l.take i)<=Hq l:=by
 have:Hq l=Hq (l.take i)+Hq (l.drop i):=by
  unfold Hq
  rw[<-List.sum_append,<-zaB,zbR]
 omega
theorem wP {l:List bM}: ∀i,i<=l.length->(GF (l.take i)).length<=Hq (l.take i)
 |0,_=>by simp[GF]
 |i+1,hi=>by
  rw[yZ (by omega),BO (by omega)]
  have h1:=wP (l:=l) i (by omega)
  have h2:=DJ (r:=l[i]'(by omega)) (o:=GF (l.take i)) (l:=pV (l[i]'(by omega)).2.2) _ (zaj _)
  rw[zak] at h2
  unfold elR
  omega
theorem y5 {α β:Type} (f:α->β) {l:List α} (h:(l.map f).Nodup):l.Nodup:=List.Pairwise.of_map f (fun _ _ h e=>h (congrArg f e)) h
def gtE (a b:gM):Bool:=mh b.1 a.1
def GH (all:List gM) (x:au):List gM:=cc gtE (all.filter fun e=>e.2.1==x)
theorem s8 {all:List gM} {x:au} {e:gM}:e∈GH all x↔e∈all/\e.2.1=x:=by
 unfold GH
 rw[(cw _).mem_iff,zb3,zaS]
structure JN (all o w:List gM):Prop where
 nd:((o++w).map (·.1)).Nodup
 sub: ∀e∈o++w,e∈all/\(e.2.1=aA\/ ∃y∈o,y.1=e.2.1)
theorem JN.len {all o w:List gM} (h:JN all o w):o.length+w.length<=all.length:=by
 have h1:(o++w).Nodup:=y5 _ h.nd
 have:=h1.length_le_of_subset (l₂:=all) fun e he=>(h.sub e he).1
 rwa [zan] at this
theorem JN.step {all o w:List gM} {x:gM} (ha:(all.map (·.1)).Nodup) (hr: ∀e∈all,e.1≠aA) (h:JN all o (x::w)):JN all (o++[x]) (GH all x.1++w):=by
 have hx:=h.sub x (zbb _ (.head _))
 have ky:=h.nd
 have e1:o++x::w=o++[x]++w:=by simp
 rw[e1] at ky
 have jL: ∀e∈o++[x]++w,e∈all/\(e.2.1=aA\/ ∃y∈o,y.1=e.2.1):=fun e he=>h.sub e (by rwa [e1])
 have hxo: ∀y∈o,y.1≠x.1:=by
  intro y hy e
  rw[zaB,zaB,za0] at ky
  have:=(za0.1 ky.1).2.2 y.1 (za6 hy) x.1 (by simp)
  exact this e
 have fZ: ∀e∈GH all x.1,e∉o++[x]++w:=by
  intro e he bg
  obtain⟨_,h2⟩:=s8.1 he
  rcases(jL e bg).2 with h3 | ⟨y,hy,h3⟩
  ·exact hr x hx.1 (by rw[<-h2,h3])
  ·exact hxo y hy (by rw[h3,h2])
 have hb:(GH all x.1).Nodup:=by
  unfold GH
  exact(cw _).nodup_iff.2 (zce.nodup (y5 _ ha))
 have key: ∀L:List gM,L.Nodup->(∀e∈L,e∈all)->(L.map (·.1)).Nodup:=by
  intro L
  induction L with
  |nil=>exact fun _ _=>by simp
  |cons a r ih=>
   intro h1 h2
   rw[za7] at h1
   rw[zbl,za7]
   refine⟨fun hm=> ?_,ih h1.2 fun e he=>h2 e (.tail _ he)⟩
   obtain⟨y,hy,e⟩:=zaA.1 hm
   have:=pM ha y (h2 y (.tail _ hy)) a (h2 a (.head _)) e
   exact h1.1 (this▸hy)
 refine⟨key _ ?_ ?_,?_⟩
 ·have hold:(o++[x]++w).Nodup:=y5 _ ky
  rw[za0] at hold⊢
  refine⟨hold.1,?_,fun a ha2 b cm e=> ?_⟩
  ·rw[za0]
   refine⟨hb,hold.2.1,fun a ha2 b cm e=> ?_⟩
   subst e
   exact fZ a ha2 (zbb _ cm)
  ·subst e
   rcases zaG.1 cm with cm |cm
   ·exact fZ a cm (zbz _ ha2)
   ·exact hold.2.2 a ha2 a cm rfl
 ·intro e he
  rcases zaG.1 he with he |he
  ·exact(jL e (zbz _ he)).1
  ·rcases zaG.1 he with he |he
   ·exact(s8.1 he).1
   ·exact(jL e (zbb _ he)).1
 ·intro e he
  have hold: ∀e,e∈o++[x]++w->e∈all/\(e.2.1=aA\/ ∃y∈o++[x],y.1=e.2.1):=by
   intro e he
   obtain⟨h1,h2⟩:=jL e he
   refine⟨h1,?_⟩
   rcases h2 with h2 | ⟨y,hy,h2⟩
   ·exact .inl h2
   ·exact .inr ⟨y,zbz _ hy,h2⟩
  rcases zaG.1 he with he |he
  ·exact hold e (zbz _ he)
  ·rcases zaG.1 he with he |he
   ·obtain⟨h1,h2⟩:=s8.1 he
    exact⟨h1,.inr ⟨x,zbb _ (.head _),h2.symm⟩⟩
   ·exact hold e (zbb _ he)
theorem JN.start {all:List gM} (ha:(all.map (·.1)).Nodup):JN all [] (GH all aA):=by
 refine⟨?_,fun e he=> ?_⟩
 ·rw[zbh]
  unfold GH
  exact((cw _).map _).nodup_iff.2 (List.Nodup.sublist ((zce).map _) ha)
 ·rw[zbh] at he
  obtain⟨h1,h2⟩:=s8.1 he
  exact⟨h1,.inl h2⟩
theorem bQ.known {i:Int} {l:List aj} (h:bQ i l) (v:List Int):bQ i (aS l v):=
 ⟨fun g hg=>h.JL g (iY.1 hg).1,(zce.map _).nodup h.nd,fun g hg=>h.sm g (iY.1 hg).1,by
  have:=za4 (fun g:aj=>decide (g.n<=eo v g.s.2)) l
  have:=h.len
  unfold aS
  omega⟩
theorem bQ.mono {i:Int} {l:List aj} (h:bQ i l):bQ (i+1) l:=⟨h.JL,h.nd,fun g hg=>by have:=h.sm g hg;grind,by have:=h.len;omega⟩
theorem oi.mono {i:Int} {l:List aj} {K:List (List Int)} (h:oi i l K):oi (i+1) l K:=⟨h.len,fun v hv=>⟨(h.vec v hv).1,fun r=>by have:=(h.vec v hv).2 r;omega⟩,h.own,h.top⟩
theorem bQ.df {i:Int} {l:List aj} (h:bQ i l):Pi.df l<=l.length:=by
 have key: ∀m:List aj,(∀g∈m,g.ops.length<=1)->Pi.df m<=m.length:=fun m=>by
  induction m with
  |nil=>simp[lq]
  |cons g r ih=>
   grind [iW]
 exact key l fun g hg=>(h.sm g hg).2.2.1
def DK (x:au) (o:aW):List bM:=if o.kind=3/\o.node=x then [(o.after,o.elem,o.text)] else []
def s9 (x:au) (l:List aW):List bM:=l.flatMap (DK x)
def fy (l:List aj) (x:au):List bM:=l.flatMap fun g=>s9 x g.ops
theorem Uf (x:au) (o:aW):(DK x o).length<=1:=by
 unfold DK
 split<;>simp
theorem y7 (x:au): ∀l:List aW,(s9 x l).length<=l.length
 | []=>zaj _
 |o::l=>by
  have h1:=Uf x o
  have h2:=y7 x l
  grind [s9]
theorem ql (x:au): ∀l:List aj,(fy l x).length<=df l
 | []=>zaj _
 |g::l=>by
  have h1:=y7 x g.ops
  have h2:=ql x l
  grind [fy,iW]
theorem GI {l:List aj} {x:au} {r:bM} (h:r∈fy l x): ∃g∈l,∃o∈g.ops,o.kind=3/\r=(o.after,o.elem,o.text):=by
 obtain⟨g,hg,hr⟩:=zcv.1 h
 obtain⟨o,ho,hr⟩:=zcv.1 hr
 grind [DK]
def JO (l:List aj) (x:au):List au:=cc mh ((GF (fy l x)).map (·.1))
theorem y8 (t:List UInt8):(pV t).length<=t.length:=by
 grind [pV,C6]
theorem GJ {i:Int} {l:List aj} (hl:bQ i l) {x y:au} (h:y∈JO l x):ie l y:=by
 obtain⟨e,he,rfl⟩:=zaA.1 ((cw _).mem_iff.1 h)
 have:=(JM (l:=fy l x) _ (zaj _)).2
 rw[zak] at this
 obtain⟨_,r,hr,k,hk,h1,_⟩:=this e he
 obtain⟨g,hg,o,ho,h3,rfl⟩:=GI hr
 have hp:=y8 o.text
 have ht:=((hl.sm g hg).2.2.2 o ho).1
 rw[h1]
 exact Ua hl hg ho h3 (Int.natCast_nonneg k) (by grind)
theorem Y9 {l:List au} (h:l.Nodup):(cc mh l).Pairwise fun a b=>mh a b=true:=by
 refine((FL qaL l).and ((cw l).nodup_iff.2 h)).imp fun {a b} Oe=> ?_
 rw[<-zct]
 exact fun e=>Oe.2 (qaL.q8 _ _ e Oe.1)
theorem NW (l:List aj) (x:au):(JO l x).Pairwise fun a b=>mh a b=true:=by
 have:=(JM (l:=fy l x) _ (zaj _)).1
 rw[zak] at this
 exact Y9 this
def OA (g:List bc) (x:au) (o:List az) (d:bc):List az:=if d.1≠x\/d∈g\/d.2∈o then o else cJ lG o d.2
def sJ (h g:List bc) (x:au):List az:=h.foldl (OA g x) []
theorem DL {h g:List bc} {x:au} {i:Nat} (hi:i<h.length):sJ (h.take (i+1)) g x=OA g x (sJ (h.take i) g x) h[i]:=by
 grind [sJ,List.take_succ_eq_append_getElem]
structure OfR (h:List bc) (o:List az):Prop where
 sub: ∀s∈o,∃d∈h,d.2=s
 qgZ:o.Pairwise fun a b=>lG a b=true
theorem NX {o:List az} (h:o.Pairwise fun a b=>lG a b=true) {s:az} (hs:s∉o):(cJ lG o s).Pairwise fun a b=>lG a b=true:=by
 have hn:(o++[s]).Nodup:=by
  rw[za0]
  refine⟨h.imp fun {a b} Oe e=> ?_,by simp,fun a ha b hb e=> ?_⟩
  ·rw[e,mP.Kt] at Oe;cases Oe
  grind
 refine((KN mP s (h.imp fun {a b} Oe=>mP.asymm Oe)).and ((gJ o s).nodup_iff.2 hn)).imp fun {a b} Oe=> ?_
 rw[<-zct]
 exact fun e=>Oe.2 (mP.q8 _ _ e Oe.1)
theorem OfR.step {h:List bc} {o:List az} (ho:OfR h o) (g:List bc) (x:au) {d:bc} (hd:d∈h):OfR h (OA g x o d):=by
 unfold OA
 split
 ·exact ho
 ·rename_i hc
  refine⟨fun s hs=> ?_,NX ho.qgZ fun hm=>hc (.inr (.inr hm))⟩
  rcases zaG.1 ((gJ o d.2).mem_iff.1 hs) with h1 |h1
  ·exact ho.sub s h1
  grind
theorem qbi {h g:List bc} {x:au}: ∀i,i<=h.length->OfR h (sJ (h.take i) g x)
 |0,_=>⟨fun s hs=>by simp[sJ] at hs,by simp[sJ]⟩
 |i+1,hi=>by
  rw[DL (by omega)]
  exact(qbi i (by omega)).step g x (zas _)
theorem Zd (g:List bc) (x:au) (o:List az) (d:bc):(OA g x o d).length<=o.length+1:=by
 grind [OA,ln]
theorem DM {h g:List bc} {x:au}: ∀i,i<=h.length->(sJ (h.take i) g x).length<=i
 |0,_=>by simp[sJ]
 |i+1,hi=>by
  rw[DL (by omega)]
  have:=Zd g x (sJ (h.take i) g x) (h[i]'(by omega))
  have:=DM (h:=h) (g:=g) (x:=x) i (by omega)
  omega
theorem Ug {on:List az} {l:List aj}: ∀i,i<=l.length-> ∀d∈(vV on (l.take i)).h,∃g∈l,g.s=d.2
 |0,_,d,hd=>by simp[vV,tl0] at hd
 |i+1,hi,d,hd=>by
  rw[sY (by omega)] at hd
  have key: ∀(b:Bool) (s:az) (m:List aW) (t:Tl),d∈(Gg b s m t).h->d∈t.h\/d.2=s:=by
   intro b s m
   have: ∀(m:List (aW×Nat)) (t:Tl),d∈(m.foldl (fun t p=>RZ b s t p.1 p.2) t).h->d∈t.h\/d.2=s:=by
    intro m
    induction m with
    |nil=>grind
    |cons p m ih=>
     grind [RZ]
   exact fun t h=>this _ t h
  rcases key _ _ _ _ hd with h |h
  ·exact Ug i (by omega) d h
  grind
theorem Z5 {i:Int} {l:List aj} (hl:bQ i l) (hi:i<=100) {on:List az} {g:List bc} {x:au}:(∀s∈sJ (vV on l).h g x,∃y∈l,y.s=s)/\(sJ (vV on l).h g x).Pairwise (fun a b=>lG a b=true)/\(sJ (vV on l).h g x).length<=200:=by
 have hr:=qbi (h:=(vV on l).h) (g:=g) (x:=x) _ (zaj _)
 have hn:=DM (h:=(vV on l).h) (g:=g) (x:=x) _ (zaj _)
 rw[zak] at hr hn
 refine⟨fun s hs=> ?_,hr.qgZ,?_⟩
 ·obtain⟨d,hd,rfl⟩:=hr.sub s hs
  exact Ug (on:=on) (l:=l) l.length (zaj _) d (by rw[zak];exact hd)
 ·have hb:=(Bz (on:=on) hl.JL l.length (zaj _)).2.2.1
  rw[zak] at hb
  have:=hl.df
  have:=hl.len
  omega
def rV (b:Bool) (l:List aW):List au:=(l.filter fun o=>o.kind==0&&(o.dir==b)).map (·.node)
def tc (b:Bool) (l:List aj):List au:=l.flatMap fun g=>rV b g.ops
theorem LF {i:Int} {l:List aj} (hl:bQ i l) {b:Bool} {y:au} (h:y∈tc b l):ie l y:=by
 obtain⟨g,hg,hy⟩:=zcv.1 h
 obtain⟨o,ho,rfl⟩:=zaA.1 hy
 grind [T9]
theorem GK (b:Bool) (l:List aW):(rV b l).length<=l.length:=by
 grind [rV]
theorem mW (b:Bool): ∀l:List aj,(tc b l).length<=df l
 | []=>zaj _
 |g::l=>by
  have h1:=GK b g.ops
  have h2:=mW b l
  grind [tc,iW]
def OpW (l:List aj) (v:List Int) (r:Int) (o:aW):Prop:=(∃m,kh (fP l v r) 0 o=some m)/\o.text.length<=2/\o.elems.length<=3
def lx (r:bM):D:= .agg [iE r.1.1,iE r.1.2.1,iE r.1.2.2,iE r.2.1.1,iE r.2.1.2.1,iE r.2.1.2.2,.str r.2.2]
abbrev JP (l:List bM):P:= .d (.sl 7 (l.map lx))
abbrev Uh (z:Bool) (l:List bM):Obj:= .arr 165 z (l.map lx)
abbrev vY (z:Bool) (l:List gM):Obj:= .arr 112 z (l.map lx)
abbrev uy (x:au):Obj:= .box 50 [iD x.1,iD x.2.1,iD x.2.2]
abbrev qaa (z:Bool) (l:List (List UInt8)):Obj:= .arr 9 z (l.map D.str)
def AtG (l:List aj) (i:Int) (g:aj):Prop:=D.nth (l.map aU) i.toNat=aU g
def AtR (l:List bM) (i:Int) (r:bM):Prop:=D.nth (l.map lx) i.toNat=lx r
abbrev rn9 (l:List aj) (x:au) (o:List bM) (i:Int):S:=⟨53,[(0,bP l),(3,.ref 0 0 0),(5,.sl 1 0 o.length),(6,iD i)],[(0,⟨0,none,uy x⟩),(1,⟨0,none,Uh false o⟩)]⟩
abbrev qab (l:List aj) (x:au) (o:List bM) (i k:Int):S:=⟨53,[(0,bP l),(3,.ref 0 0 0),(5,.sl 1 0 o.length),(6,iD i),(7,iD k)],[(0,⟨0,none,uy x⟩),(1,⟨0,none,Uh false o⟩)]⟩
def Zcr (o:List bM):En:=En.mk 0 none (Obj.arr (165:TypeId) false (List.map lx o))
def Zcs (x:au) (o:List bM):List (Nat×En):=[vW x,(1,Zcr o)]
def Zcq (o:List bM):Nat×P:=(5,P.sl 1 0 (List.length o))
def Zct (k:Int) (post:PX×S->Prop) (l:List aj) (o:List bM) (i:Int) (x:au):Prop:=bif Zj k then post (PX.normal,S.mk 53 (gi l::dF::Zcq o::ZK i::ZL k) (Zcs x o)) else False
def Zcp (l:List aj) (i:Int) (k:Int):List D:=[D.agg [D.int .i64 (D.ah (D.aq (lv l i k) 10)),D.int .i64 (D.ah (D.aq (lv l i k) 11)),D.int .i64 (D.ah (D.aq (lv l i k) 12)),D.int .i64 (D.ah (D.aq (lv l i k) 13)),D.int .i64 (D.ah (D.aq (lv l i k) 14)),D.int .i64 (D.ah (D.aq (lv l i k) 15)),D.str (D.eI (D.aq (lv l i k) 16))]]
theorem qbj (l:List aj) (x:au) (o:List bM) (i k:Int) (post:PX×S->Prop):(bif ji i l then bif ep l i then bif decide (k<NI l i) then bif ji i l then bif ep l i then bif Hm k l i then bif Hl l i k then bif Hk l i k==(3:Int) then bif D.ah (D.aq (lv l i k) 1)==Prod.fst x&&(D.ah (D.aq (lv l i k) 2)==h9 x&&true)&&(D.ah (D.aq (lv l i k) 3)==gP x&&true) then bif Nat.ble (List.length o) (List.length (List.map lx o))&&aN (List.length o+List.length (Zcp l i k)) 64 then bif Zj k then post (PX.normal,S.mk 53 (gi l::dF::(5,P.sl 1 0 (List.length o+List.length (Zcp l i k)))::ZK i::ZL k) [vW x,(1,En.mk 0 none (Obj.arr (165:TypeId) false (List.take (List.length o) (List.map lx o)++Zcp l i k)))]) else False else False else Zct k post l o i x else Zct k post l o i x else False else False else False else False else post (PX.exit 2,S.mk 53 (gi l::dF::Zcq o::Jy i) (Zcs x o)) else False else False)=(aD [] [] 59 6 (qab l x o i k)) post:=by kernel_rfl
def Ui:S->K (PX×S):=fun s post=> ∃(l:List aj) (x:au) (o:List bM) (i:Int) (g:aj),AtG l i g/\s=qab l x o i 0/\(0<=i/\i<l.length/\o.length+g.ops.length<=1000000)/\ ∀o',o'=o++s9 x g.ops->post (.exit 2,rn9 l x o' i)
theorem qbk (l:List aj) (x:au) (o:List bM) (i:Int) (post:PX×S->Prop):(bif oG i l then∃(ar:List aj) (aI:au) (aP:List bM) (aG:Int) (g:aj),AtG ar aG g/\S.mk 53 (gi l::dF::Zcq o::ZK i::rB) (Zcs x o)=S.mk 53 (gi ar::dF::Zcq aP::ZK aG::rB) (Zcs aI aP)/\((0:Int)<=aG/\aG<og ar/\List.length aP+List.length (aj.ops g)<=1000000)/\ ∀(o':List bM),o'=aP++s9 aI (aj.ops g)->bif Zj aG then post (PX.normal,S.mk 53 (gi ar::dF::Zcq o'::ZA aG) (Zcs aI o')) else False else post (PX.exit 0,S.mk 53 [(5,P.sl 0 0 (List.length o))] [(0,Zcr o)]))=(aD [] [(6,ae (aL 59 6) Ui)] 59 3 (rn9 l x o i)) post:=by kernel_rfl
def qeg:S->K (PX×S):=fun s post=> ∃l x,s=rn9 l x [] 0/\(l.length<=1000000/\df l<=1000)/\ ∀o,o=fy l x->post (.exit 0,⟨53,[(5,.sl 0 0 o.length)],[(0,⟨0,none,Uh false o⟩)]⟩)
def Zcv (ar:List aj):Prop:=mx ar/\df ar<=1000
def Zcu (l:List aj) (x:au):S:=S.mk 53 (gi l::dF::Z7E) [vW x,(1,En.mk 0 none (Obj.arr (165:TypeId) false []))]
theorem qiO (l:List aj) (x:au) (post:P×List (Nat×En)->Prop):(∃(ar:List aj) (aI:au),Zcu l x=Zcu ar aI/\Zcv ar/\ ∀(o:List bM),o=fy ar aI->post (P.sl 0 0 (List.length o),[(0,Zcr o)]))=(aJ [] [(3,ae (aL 59 3) qeg)] 59 [bP l,.d (bB x)] []) post:=by kernel_rfl
def qeh:bq:=fun ps R post=> ∃l x,ps=[bP l,.d (bB x)]/\R=[]/\(l.length<=1000000/\df l<=1000)/\ ∀o,o=fy l x->post (.sl 0 0 o.length,[(0,⟨0,none,Uh false o⟩)])
abbrev qac (h g:List bc) (x:au) (o:List az) (n:Nat) (i k:Int):S:=⟨84,[(0,iX h),(1,iX g),(5,.ref 0 0 0),(7,.sl 1 0 n),(8,iD i),(9,iD k)],[(0,⟨0,none,uy x⟩),(1,⟨0,none,lZ false o⟩)]⟩
abbrev of9 (h g:List bc) (x:au) (o:List az) (i:Int):S:=⟨84,[(0,iX h),(1,iX g),(5,.ref 0 0 0),(7,.sl 1 0 o.length),(8,iD i)],[(0,⟨0,none,uy x⟩),(1,⟨0,none,lZ false o⟩)]⟩
def Zcx (x:au) (o:List az):List (Nat×En):=[vW x,(1,oH o)]
def Zcw (o:List az) (k:Int):List D:=List.set (eK o) (Zg k) (D.aV (D.agg (Ac o k)) (Xa o k))
theorem qei (h g:List bc) (x:au) (o:List az) (n:Nat) (i k:Int) (post:PX×S->Prop):(bif Zr k then bif my k n then bif K9 k o then bif vK o k then bif Zb k then bif wH k n then bif decide (Zc k<List.length (eK o)) then bif Xb o k then∃(a:az) (b:az),[P.d (D.agg (Ac o k)),P.d (D.agg (Xa o k))]=ze a b/\Zx/\ ∀(r:Bool),r=lG a b->bif r then bif Zb k then bif Zb k then bif wH k n then bif decide (Zc k<List.length (eK o)) then bif Xb o k then bif my k n then bif K9 k o then bif vK o k then bif my k n then bif K9 k o then bif vK o k then bif wH k n then bif decide (Zc k<List.length (Zcw o k)) then bif cC PR (30:TypeId) (D.nth (Zcw o k) (Zc k)) then bif Zb k then post (PX.normal,S.mk 84 (r7 h::wJ g::yH::(7,P.sl 1 0 n)::vp i::Z7Q k) [vW x,(1,En.mk 0 none (Obj.arr (30:TypeId) false (List.set (Zcw o k) (Zc k) (D.aV (D.agg [D.int .i64 (D.ah (D.aq (D.nth (Zcw o k) (Zc k)) 0)),D.int .i64 (D.ah (D.aq (D.nth (Zcw o k) (Zc k)) 1))]) (Ac o k)))))]) else False else False else False else False else False else False else False else False else False else False else False else False else False else False else False else post (PX.exit 2,S.mk 84 (r7 h::wJ g::yH::(7,P.sl 1 0 n)::Ny i) (Zcx x o)) else False else False else False else False else False else False else False else post (PX.exit 2,S.mk 84 (r7 h::wJ g::yH::(7,P.sl 1 0 n)::Ny i) (Zcx x o)))=(aD [(14,lV)] [] 79 8 (qac h g x o n i k)) post:=by kernel_rfl
def Uj:S->K (PX×S):=fun st post=> ∃h g x o y n i k,st=qac h g x (o++[y]) n i k/\(k=(o.length:Int)/\n=o.length+1/\o.length<=1000000)/\ ∀o',o'=cJ lG o y->post (.exit 2,of9 h g x o' i)
def Zcz (o:List az) (h:List bc) (i:Int):Nat:=eu o+List.length [D.agg (Z8n h i)]
def Zcy (i:Int) (post:PX×S->Prop) (h:List bc) (g:List bc) (o:List az) (x:au):Prop:=bif Zj i then post (PX.normal,S.mk 84 (r7 h::wJ g::yH::(7,P.sl 1 0 (eu o))::qz i) (Zcx x o)) else False
theorem Uk (h g:List bc) (x:au) (o:List az) (i:Int) (post:PX×S->Prop):(bif Yi i h then bif Nx i h then bif Nw h i then bif !(D.ah (D.aq (yK h i) 0)==Prod.fst x&&(D.ah (D.aq (yK h i) 1)==h9 x&&true)&&(D.ah (D.aq (yK h i) 2)==gP x&&true)) then Zcy i post h g o x else bif Nx i h then bif Nw h i then∃(l:List bc) (aI:bc),Z8o g h i l aI/\Zx/\BB l/\ ∀(b:Bool),b=decide (aI∈l)->bif b then Zcy i post h g o x else bif Nx i h then bif Nw h i then∃(l:List az) (x_2:az),[zq o,P.d (D.agg (Z8n h i))]=zq l::oP x_2/\D2 o=D2 l/\rN l/\ ∀(b:Bool),VC b l x_2->bif b then bif Zj i then post (PX.normal,S.mk 84 (r7 h::wJ g::yH::(7,P.sl 1 0 (eu o))::qz i) (Zcx x l)) else False else bif Nx i h then bif Nw h i then bif Nat.ble (eu o) (List.length (eK l))&&aN (Zcz o h i) 16 then bif decide (Z9<=(↑(Zcz o h i):Int)-(1:Int)/\(↑(Zcz o h i):Int)-(1:Int)<=Za) then∃(qB:List bc) (aO:List bc) (x_3:au) (aP:List az) (y:az) (n:Nat) (aG:Int) (k:Int),S.mk 84 [r7 h,wJ g,yH,(7,P.sl 1 0 (Zcz o h i)),vp i,(9,P.d (D.int .i64 ((↑(Zcz o h i):Int)-(1:Int))))] [vW x,(1,En.mk 0 none (Obj.arr (30:TypeId) false (List.take (eu o) (eK l)++[D.agg (Z8n h i)])))]=S.mk 84 [r7 qB,wJ aO,yH,(7,P.sl 1 0 n),vp aG,Z7U k] [vW x_3,(1,En.mk 0 none (Obj.arr (30:TypeId) false (List.map bh (aP++[y]))))]/\(k=(↑(eu aP):Int)/\n=eu aP+1/\rN aP)/\ ∀(o':List az),o'=cJ lG aP y->Zcy aG post qB aO o' x_3 else False else False else False else False else False else False else False else False else False else False else post (PX.exit 0,S.mk 84 [(7,zq o)] (Nd o)))=(aD [(92,SD),(42,Gs)] [(8,ae (aL 79 8) Uj)] 79 3 (of9 h g x o i)) post:=by kernel_rfl
def qej:S->K (PX×S):=fun s post=> ∃h g x,s=of9 h g x [] 0/\(h.length<=1000000/\g.length<=1000000)/\ ∀o,o=sJ h g x->post (.exit 0,⟨84,[(7,.sl 0 0 o.length)],[(0,⟨0,none,lZ false o⟩)]⟩)
def ZcA (h:List bc) (g:List bc) (x:au):S:=S.mk 84 (r7 h::wJ g::yH::(7,zt)::Jr) [vW x,(1,vU)]
theorem qg0 (h g:List bc) (x:au) (post:P×List (Nat×En)->Prop):(∃(qB:List bc) (aO:List bc) (aI:au),ZcA h g x=ZcA qB aO aI/\(BB qB/\BB aO)/\ ∀(o:List az),o=sJ qB aO aI->post (zq o,Nd o))=(aJ [] [(3,ae (aL 79 3) qej)] 79 [iX h,iX g,.d (bB x)] []) post:=by kernel_rfl
def qek:bq:=fun ps R post=> ∃h g x,ps=[iX h,iX g,.d (bB x)]/\R=[]/\(h.length<=1000000/\g.length<=1000000)/\ ∀o,o=sJ h g x->post (.sl 0 0 o.length,[(0,⟨0,none,lZ false o⟩)])
abbrev el9 (l:List bM) (o:List gM) (i:Int):S:=⟨86,[(0,JP l),(3,.sl 0 0 o.length),(4,iD i)],[(0,⟨0,none,vY false o⟩)]⟩
abbrev Ul (l:List bM) (o:List gM) (p:List (List UInt8)) (a:au) (i k:Int):S:=⟨86,[(0,JP l),(3,.sl 0 0 o.length),(4,iD i),(5,.sl 1 0 p.length),(7,.ref 2 0 0),(8,iD k)],[(0,⟨0,none,vY false o⟩),(1,⟨0,none,qaa false p⟩),(2,⟨0,none,uy a⟩)]⟩
abbrev qel (l:List bM) (o:List gM) (p:List (List UInt8)) (a x:au) (h:Bool) (i k j:Int):S:=⟨86,[(0,JP l),(3,.sl 0 0 o.length),(4,iD i),(5,.sl 1 0 p.length),(7,.ref 2 0 0),(8,iD k),(9,.ref 3 0 0),(10,.d (.bool h)),(11,iD j)],[(0,⟨0,none,vY false o⟩),(1,⟨0,none,qaa false p⟩),(2,⟨0,none,uy a⟩),(3,⟨0,none,uy x⟩)]⟩
def uz (o:List gM):Nat×En:=(0,En.mk 0 none (Obj.arr (112:TypeId) false (List.map lx o)))
def ZcH (o:List gM) (p:List (List UInt8)) (a:au) (x:au):List (Nat×En):=[uz o,KK p,(2,oT a),(3,oT x)]
def ZcF:Nat×P:=(9,P.ref 3 0 0)
def Hr:Nat×P:=(7,r6)
def JQ (p:List (List UInt8)):Nat×P:=(5,P.sl 1 0 (List.length p))
def Ec (o:List gM):Nat×P:=(3,P.sl 0 0 (List.length o))
def BP (l:List bM):Nat×P:=(0,P.d (D.sl 7 (List.map lx l)))
theorem Um (l:List bM) (o:List gM) (p:List (List UInt8)) (a x:au) (h:Bool) (i k j:Int) (post:PX×S->Prop):(bif decide (j<(↑(List.length o):Int)) then bif h then bif Zj j then post (PX.normal,S.mk 86 (BP l::Ec o::nf i::JQ p::Hr::vp k::ZcF::(10,ZO)::Z4M j) (ZcH o p a x)) else False else bif decide ((0:Int)<=j/\j<(↑(List.length o):Int)) then bif decide (Zg j<List.length (List.map lx o)) then bif cC PR (112:TypeId) (D.nth (List.map lx o) (Zg j)) then bif Zj j then post (PX.normal,S.mk 86 (BP l::Ec o::nf i::JQ p::Hr::vp k::ZcF::(10,P.d (D.bool (D.ah (D.aq (D.nth (List.map lx o) (Zg j)) 0)==Prod.fst x&&(D.ah (D.aq (D.nth (List.map lx o) (Zg j)) 1)==h9 x&&true)&&(D.ah (D.aq (D.nth (List.map lx o) (Zg j)) 2)==gP x&&true))))::Z4M j) (ZcH o p a x)) else False else False else False else False else post (PX.exit 4,S.mk 86 [BP l,Ec o,nf i,JQ p,Hr,vp k,ZcF,(10,gh h)] (ZcH o p a x)))=(aD [] [] 107 13 (qel l o p a x h i k j)) post:=by kernel_rfl
def Un:S->K (PX×S):=fun s post=> ∃l o p a x h i k,s=qel l o p a x h i k 0/\o.length<=1000000/\ ∀b,b=(h ||o.any fun e=>e.1==x)->post (.exit 4,⟨86,[(0,JP l),(3,.sl 0 0 o.length),(4,iD i),(5,.sl 1 0 p.length),(7,.ref 2 0 0),(8,iD k),(9,.ref 3 0 0),(10,.d (.bool b))],[(0,⟨0,none,vY false o⟩),(1,⟨0,none,qaa false p⟩),(2,⟨0,none,uy a⟩),(3,⟨0,none,uy x⟩)]⟩)
def ZcK (x:au) (kF:au) (l0:List (List UInt8)) (bS:Int):List D:=[D.agg [gC x,gB x,gO x,gC kF,gB kF,gO kF,D.str (D.eI (D.nth (List.map D.str l0) (Zg bS)))]]
def Ar (l:List bM) (i:Int):D:=D.nth (List.map lx l) (Zg i)
def ZcI (i:Int) (l:List bM):Bool:=decide ((0:Int)<=i/\i<(↑(List.length (List.map lx l)):Int))
theorem Uo (l:List bM) (o:List gM) (p:List (List UInt8)) (a:au) (i k:Int) (post:PX×S->Prop):(bif decide (k<(↑(List.length p):Int)) then bif ZcI i l then bif cC PR (165:TypeId) (Ar l i) then bif ZcI i l then bif cC PR (165:TypeId) (Ar l i) then bif decide (Z9<=D.ah (D.aq (Ar l i) 5)+k/\D.ah (D.aq (Ar l i) 5)+k<=Za) then∃(ar:List bM) (aP:List gM) (l0:List (List UInt8)) (kF:au) (x:au) (h:Bool) (aG:Int) (bS:Int),S.mk 86 (BP l::Ec o::nf i::JQ p::Hr::vp k::ZcF::(10,P.d (D.bool (D.ah (D.aq (Ar l i) 3)==(0:Int)&&(D.ah (D.aq (Ar l i) 4)==(0:Int)&&true)&&(D.ah (D.aq (Ar l i) 5)+k==(0:Int)&&true))))::Z50) [uz o,KK p,(2,oT a),(3,En.mk 0 none (Obj.box (50:TypeId) [P.d (D.int .i64 (D.ah (D.aq (Ar l i) 3))),P.d (D.int .i64 (D.ah (D.aq (Ar l i) 4))),P.d (D.int .i64 (D.ah (D.aq (Ar l i) 5)+k))]))]=S.mk 86 (BP ar::Ec aP::nf aG::JQ l0::Hr::vp bS::ZcF::(10,gh h)::Z50) (ZcH aP l0 kF x)/\List.length aP<=1000000/\ ∀(b:Bool),b=(h ||List.any aP fun(e:gM)=>Prod.fst e==x)->bif jY b then bif decide ((0:Int)<=bS/\bS<(↑(List.length l0):Int)) then bif decide (Zg bS<List.length (List.map D.str l0)) then bif cC PR (9:TypeId) (D.nth (List.map D.str l0) (Zg bS)) then bif Nat.ble (List.length aP) (List.length (List.map lx aP))&&aN (List.length aP+List.length (ZcK x kF l0 bS)) 64 then bif Zj bS then post (PX.normal,S.mk 86 (BP ar::(3,P.sl 0 0 (List.length aP+List.length (ZcK x kF l0 bS)))::nf aG::JQ l0::Hr::qz bS) ((0,En.mk 0 none (Obj.arr (112:TypeId) false (List.take (List.length aP) (List.map lx aP)++ZcK x kF l0 bS)))::KK l0::X1 x)) else False else False else False else False else False else bif Zj bS then post (PX.normal,S.mk 86 (BP ar::Ec aP::nf aG::JQ l0::Hr::qz bS) (uz aP::KK l0::X1 x)) else False else False else False else False else False else False else post (PX.exit 2,S.mk 86 (BP l::Ec o::Ai i) [uz o]))=(aD [] [(13,ae (aL 107 13) Un)] 107 8 (Ul l o p a i k)) post:=by kernel_rfl
def Ur:S->K (PX×S):=fun s post=> ∃l o p r i,s=Ul l o p r.1 i 0/\(0<=i/\i<l.length/\l.length<=1000000/\p.length<=100000/\o.length+p.length<=1000000/\(0<=r.2.1.2.2/\r.2.1.2.2<=1000000000000))/\AtR l i r/\ ∀o',o'=LC r o p->post (.exit 2,el9 l o' i)
def ZcN (aG:Int) (ar:List bM) (p:List (List UInt8)) (aP:List gM) (r:bM) (post:PX×S->Prop):Prop:=((0:Int)<=aG/\aG<(↑(List.length ar):Int)/\List.length ar<=1000000/\List.length p<=100000/\List.length aP+List.length p<=1000000/\(0:Int)<=Prod.snd (Prod.snd (Prod.fst (Prod.snd r)))/\Prod.snd (Prod.snd (Prod.fst (Prod.snd r)))<=(1000000000000:Int))/\AtR ar aG r/\ ∀(o':List gM),o'=LC r aP p->bif Zj aG then post (PX.normal,S.mk 86 (BP ar::Ec o'::vi aG) [uz o']) else False
def ZcM (ar:List bM) (aP:List gM) (aG:Int) (p:List (List UInt8)) (r:bM):S:=S.mk 86 (BP ar::Ec aP::nf aG::JQ p::Hr::Jr) [uz aP,KK p,(2,En.mk 0 none (Obj.box (50:TypeId) [P.d (D.int .i64 (Prod.fst (Prod.fst r))),P.d (D.int .i64 (Prod.fst (Prod.snd (Prod.fst r)))),P.d (D.int .i64 (Prod.snd (Prod.snd (Prod.fst r))))]))]
def ZcL (l:List bM) (i:Int):List (Nat×En):=[(2,En.mk 0 none (Obj.box (50:TypeId) [P.d (D.int .i64 (D.ah (D.aq (Ar l i) 0))),P.d (D.int .i64 (D.ah (D.aq (Ar l i) 1))),P.d (D.int .i64 (D.ah (D.aq (Ar l i) 2)))]))]
theorem Us (l:List bM) (o:List gM) (i:Int) (post:PX×S->Prop):(bif decide (i<(↑(List.length (List.map lx l)):Int)) then bif ZcI i l then bif cC PR (165:TypeId) (Ar l i) then∃(s:List UInt8),[P.d (D.str (D.eI (D.aq (Ar l i) 6)))]=vb s/\Zx/\GZ s/\(QL s->bif ZcI i l then bif cC PR (165:TypeId) (Ar l i) then∃(ar:List bM) (aP:List gM) (p:List (List UInt8)) (r:bM) (aG:Int),S.mk 86 (BP l::Ec o::nf i::(5,zt)::Hr::Jr) (uz o::(1,Z1Q)::ZcL l i)=ZcM ar aP aG p r/\ZcN aG ar p aP r post else False else False)/\(QK s-> ∀(aP:List (List UInt8)),aP=G7 s->bif ZcI i l then bif cC PR (165:TypeId) (Ar l i) then∃(ar:List bM) (TP:List gM) (p:List (List UInt8)) (r:bM) (aG:Int),S.mk 86 (BP l::Ec o::nf i::JQ aP::Hr::Jr) (uz o::KK aP::ZcL l i)=ZcM ar TP aG p r/\ZcN aG ar p TP r post else False else False) else False else False else post (PX.exit 0,S.mk 86 [Ec o] [uz o]))=(aD [(144,sS)] [(8,ae (aL 107 8) Ur)] 107 3 (el9 l o i)) post:=by kernel_rfl
def mn (l:List bM):Prop:=l.length<=1000000/\Hq l<=1000000/\ ∀r∈l,r.2.2.length<=100000/\0<=r.2.1.2.2/\r.2.1.2.2<=1000000000000
def qem:S->K (PX×S):=fun s post=> ∃l,s=el9 l [] 0/\mn l/\ ∀o,o=GF l->post (.exit 0,⟨86,[(3,.sl 0 0 o.length)],[(0,⟨0,none,vY false o⟩)]⟩)
def ZcO (l:List bM):S:=S.mk 86 (BP l::RH) [(0,En.mk 0 none (Obj.arr (112:TypeId) false []))]
theorem qg1 (l:List bM) (post:P×List (Nat×En)->Prop):(∃(ar:List bM),ZcO l=ZcO ar/\mn ar/\ ∀(o:List gM),o=GF ar->post (P.sl 0 0 (List.length o),[uz o]))=(aJ [] [(3,ae (aL 107 3) qem)] 107 [JP l] []) post:=by kernel_rfl
def qen:bq:=fun ps R post=> ∃l,ps=[JP l]/\R=[]/\mn l/\ ∀o,o=GF l->post (.sl 0 0 o.length,[(0,⟨0,none,vY false o⟩)])
abbrev es9 (l:List gM) (o:List au) (i:Int):S:=⟨64,[(5,.sl 0 0 l.length),(6,.sl 1 0 o.length),(7,iD i)],[(0,⟨0,none,vY false l⟩),(1,⟨0,none,iq false o⟩)]⟩
abbrev qad (l:List gM) (o:List au) (n:Nat) (i k:Int):S:=⟨64,[(5,.sl 0 0 l.length),(6,.sl 1 0 n),(7,iD i),(8,iD k)],[(0,⟨0,none,vY false l⟩),(1,⟨0,none,iq false o⟩)]⟩
def VE (l:List gM):Nat×P:=(5,P.sl 0 0 (List.length l))
def ZcQ (post:PX×S->Prop) (l:List gM) (n:Nat) (i:Int) (o:List au):Prop:=post (PX.exit 2,S.mk 64 [VE l,Ju n,rR i] [uz l,(1,Hi o)])
theorem qeo (l:List gM) (o:List au) (n:Nat) (i k:Int) (post:PX×S->Prop):(bif Zr k then bif my k n then bif SH k o then bif wz o k then bif Zb k then bif wH k n then bif Z8f k o then bif Oi o k then∃(t:Int) (r:Int) (aG:Int) (t':Int) (r':Int) (i':Int),[P.d (D.agg (MW o k)),P.d (D.agg (Vd o k))]=Sq t r aG t' r' i'/\Zx/\bif Sp t r aG t' r' i' then bif Zb k then bif Zb k then bif wH k n then bif Z8f k o then bif Oi o k then bif my k n then bif SH k o then bif wz o k then bif my k n then bif SH k o then bif wz o k then bif wH k n then bif decide (Zc k<List.length (Vm o k)) then bif cC PR (50:TypeId) (D.nth (Vm o k) (Zc k)) then bif Zb k then post (PX.normal,S.mk 64 (VE l::Ju n::rR i::Z8i k) [uz l,(1,Z8j o k)]) else False else False else False else False else False else False else False else False else False else False else False else False else False else False else False else ZcQ post l n i o else False else False else False else False else False else False else False else ZcQ post l n i o)=(aD [(88,iR)] [] 80 8 (qad l o n i k)) post:=by kernel_rfl
def Ut:S->K (PX×S):=fun st post=> ∃l o x n i k,st=qad l (o++[x]) n i k/\(k=(o.length:Int)/\n=o.length+1/\o.length<=1000000)/\ ∀o',o'=cJ mh o x->post (.exit 2,es9 l o' i)
def ZcR (l:List gM) (i:Int):List D:=[D.agg [D.int .i64 (D.ah (D.aq (D.nth (List.map lx l) (Zg i)) 0)),D.int .i64 (D.ah (D.aq (D.nth (List.map lx l) (Zg i)) 1)),D.int .i64 (D.ah (D.aq (D.nth (List.map lx l) (Zg i)) 2))]]
def ZcS (o:List au) (l:List gM) (i:Int):Int:=(↑(ia o+List.length (ZcR l i)):Int)-(1:Int)
theorem Uu (l:List gM) (o:List au) (i:Int) (post:PX×S->Prop):(bif decide (i<(↑(List.length l):Int)) then bif decide ((0:Int)<=i/\i<(↑(List.length l):Int)) then bif decide (Zg i<List.length (List.map lx l)) then bif cC PR (112:TypeId) (D.nth (List.map lx l) (Zg i)) then bif Nat.ble (ia o) (pL o)&&aN (ia o+List.length (ZcR l i)) 24 then bif decide (Z9<=ZcS o l i/\ZcS o l i<=Za) then∃(ar:List gM) (aP:List au) (x:au) (n:Nat) (aG:Int) (k:Int),S.mk 64 [VE l,(6,P.sl 1 0 (ia o+List.length (ZcR l i))),rR i,(8,P.d (D.int .i64 (ZcS o l i)))] [uz l,(1,En.mk 0 none (Obj.arr (50:TypeId) false (List.take (ia o) (gq o)++ZcR l i)))]=S.mk 64 (VE ar::Ju n::rR aG::Ny k) [uz ar,(1,Z8u aP x)]/\(k=vX aP/\n=ia aP+1/\pS aP)/\ ∀(o':List au),o'=cJ mh aP x->bif Zj aG then post (PX.normal,S.mk 64 (VE ar::(6,P.sl 1 0 (ia o'))::ZL aG) [uz ar,(1,Hi o')]) else False else False else False else False else False else False else post (PX.exit 0,S.mk 64 [(6,qA o)] (uw o)))=(aD [] [(8,ae (aL 80 8) Ut)] 80 4 (es9 l o i)) post:=by kernel_rfl
def qep:S->K (PX×S):=fun s post=> ∃l,s=es9 l [] 0/\l.length<=1000000/\ ∀o,o=cc mh (l.map (·.1))->post (.exit 0,⟨64,[(6,.sl 0 0 o.length)],[(0,⟨0,none,iq false o⟩)]⟩)
def ZcT (o:List gM):S:=S.mk 64 (VE o::Z7V) [uz o,(1,Lq)]
theorem qg2 (l:List aj) (x:au) (post:P×List (Nat×En)->Prop):(∃(ar:List aj) (aI:au),cX l::iV x=cX ar::iV aI/\Zx/\Zcv ar/\ ∀(o:List bM),o=fy ar aI-> ∃(l:List bM),[P.d (D.sl 7 (List.take (List.length o) (List.map lx o)))]=[P.d (D.sl 7 (List.map lx l))]/\Zx/\mn l/\ ∀(o:List gM),o=GF l-> ∃(l:List gM),ZcT o=ZcT l/\List.length l<=1000000/\ ∀(o:List au),o=cc mh (List.map (fun(x:gM)=>Prod.fst x) l)->post (qA o,uw o))=(aJ [(59,qeh),(107,qen)] [(4,ae (aL 80 4) qep)] 80 [bP l,.d (bB x)] []) post:=by kernel_rfl
def qeq:bq:=fun ps R post=> ∃l x,ps=[bP l,.d (bB x)]/\R=[]/\(l.length<=1000000/\df l<=1000/\mn (fy l x))/\ ∀o,o=JO l x->post (.sl 0 0 o.length,[(0,⟨0,none,iq false o⟩)])
abbrev knH (l:List aj) (v:List Int) (o:List aj) (i:Int):S:=⟨35,[(0,bP l),(1,vD v),(5,.sl 0 0 o.length),(6,iD i)],[(0,⟨0,none,oR false o⟩)]⟩
theorem qbl (l:List aj) (v:List Int) (o:List aj) (i:Int) (post:PX×S->Prop):(bif oG i l then bif ji i l then bif ep l i then bif ji i l then bif ep l i then∃(ar:List Int) (r:Int),[Zk v,P.d (oE l i)]=Zk ar::Zv r/\Zx/\Zz ar/\bif decide (Ae l i<=eo ar r) then bif ji i l then bif ep l i then bif XD o l i then bif Zj i then post (PX.normal,S.mk 35 (gi l::Zm v::(5,P.sl 0 0 (K0 o l i))::ZA i) [(0,XC o l i)]) else False else False else False else False else bif Zj i then post (PX.normal,S.mk 35 (gi l::Zm v::(5,oF o)::ZA i) (DZ o)) else False else False else False else False else False else post (PX.exit 0,S.mk 35 [(5,oF o)] (DZ o)))=(aD [(13,Iu)] [] 48 3 (knH l v o i)) post:=by kernel_rfl
def gKn:S->K (PX×S):=fun s post=> ∃l v,s=knH l v [] 0/\(l.length<=1000000/\v.length<=1000000)/\ ∀o,o=aS l v->post (.exit 0,⟨35,[(5,.sl 0 0 o.length)],[(0,⟨0,none,oR false o⟩)]⟩)
theorem qiP (l:List aj) (v:List Int) (post:P×List (Nat×En)->Prop):(∃(ar:List aj) (de:List Int),S.mk 35 (gi l::Zm v::SL) Z5l=S.mk 35 (gi ar::Zm de::SL) Z5l/\(mx ar/\G9 de)/\ ∀(o:List aj),o=aS ar de->post (oF o,DZ o))=(aJ [] [(3,ae (aL 48 3) gKn)] 48 [bP l,vD v] []) post:=by kernel_rfl
def hKn:bq:=fun ps R post=> ∃l v,ps=[bP l,vD v]/\R=[]/\(l.length<=1000000/\v.length<=1000000)/\ ∀o,o=aS l v->post (.sl 0 0 o.length,[(0,⟨0,none,oR false o⟩)])
abbrev Uv (l:List aj) (t i:Int):S:=⟨20,[(0,bP l),(3,iD t),(4,iD i)],[]⟩
theorem qbm (l:List aj) (t i:Int) (post:PX×S->Prop):(bif oG i l then bif ji i l then bif ep l i then bif Zj i then post (PX.normal,S.mk 20 (gi l::(3,P.d (D.int .i64 (max t (D.ah (D.aq (gQ l i) 0)))))::vi i) []) else False else False else False else post (PX.exit 0,S.mk 20 (Zu t) []))=(aD [] [] 49 3 (Uv l t i)) post:=by kernel_rfl
def Uw:S->K (PX×S):=fun s post=> ∃l,s=Uv l 0 0/\l.length<=1000000/\ ∀t,t=mQ l->post (.exit 0,⟨20,[(3,iD t)],[]⟩)
def ZcU (l:List aj):S:=S.mk 20 (gi l::(3,P.d Z7)::M3) []
theorem qiQ (l:List aj) (post:P×List (Nat×En)->Prop):(∃(ar:List aj),ZcU l=ZcU ar/\mx ar/\ ∀(t:Int),t=mQ ar->post (P.d (Zt t),[]))=(aJ [] [(3,ae (aL 49 3) Uw)] 49 [bP l] []) post:=by kernel_rfl
def Ux:bq:=fun ps R post=> ∃l,ps=[bP l]/\R=[]/\l.length<=1000000/\ ∀t,t=mQ l->post (iD t,[])
abbrev ndH (l:List aj) (b:Bool) (o:List au) (i:Int):S:=⟨60,[(0,bP l),(1,.d (.bool b)),(5,.sl 0 0 o.length),(6,iD i)],[(0,⟨0,none,iq false o⟩)]⟩
abbrev ndI (l:List aj) (b:Bool) (o:List au) (i k:Int):S:=⟨60,[(0,bP l),(1,.d (.bool b)),(5,.sl 0 0 o.length),(6,iD i),(7,iD k)],[(0,⟨0,none,iq false o⟩)]⟩
def OB (b:Bool):Nat×P:=(1,gh b)
def ZcX (k:Int) (post:PX×S->Prop) (l:List aj) (b:Bool) (o:List au) (i:Int):Prop:=bif Zj k then post (PX.normal,S.mk 60 (gi l::OB b::(5,qA o)::ZK i::ZL k) (uw o)) else False
def ZcV (l:List aj) (i:Int) (k:Int):List D:=[D.agg [Zb7 l i k,Zb8 l i k,Zb9 l i k]]
theorem qbn (l:List aj) (b:Bool) (o:List au) (i k:Int) (post:PX×S->Prop):(bif ji i l then bif ep l i then bif decide (k<NI l i) then bif ji i l then bif ep l i then bif Hm k l i then bif Hl l i k then bif Hk l i k==(0:Int) then bif ji i l then bif ep l i then bif Hm k l i then bif Hl l i k then bif D.e7 (D.aq (lv l i k) 8)==b then bif ji i l then bif ep l i then bif Hm k l i then bif Hl l i k then bif Nat.ble (ia o) (pL o)&&aN (ia o+List.length (ZcV l i k)) 24 then bif Zj k then post (PX.normal,S.mk 60 (gi l::OB b::(5,P.sl 0 0 (ia o+List.length (ZcV l i k)))::ZK i::ZL k) [(0,En.mk 0 none (Obj.arr (50:TypeId) false (List.take (ia o) (gq o)++ZcV l i k)))]) else False else False else False else False else False else False else ZcX k post l b o i else False else False else False else False else ZcX k post l b o i else False else False else False else False else post (PX.exit 2,S.mk 60 (gi l::OB b::(5,qA o)::Jy i) (uw o)) else False else False)=(aD [] [] 76 6 (ndI l b o i k)) post:=by kernel_rfl
def qer:S->K (PX×S):=fun s post=> ∃(l:List aj) (b:Bool) (o:List au) (i:Int) (g:aj),AtG l i g/\s=ndI l b o i 0/\(0<=i/\i<l.length/\o.length+g.ops.length<=1000000)/\ ∀o',o'=o++rV b g.ops->post (.exit 2,ndH l b o' i)
theorem qbo (l:List aj) (b:Bool) (o:List au) (i:Int) (post:PX×S->Prop):(bif oG i l then∃(ar:List aj) (Sw:Bool) (aP:List au) (aG:Int) (g:aj),AtG ar aG g/\S.mk 60 (gi l::OB b::(5,qA o)::ZK i::rB) (uw o)=S.mk 60 (gi ar::OB Sw::(5,qA aP)::ZK aG::rB) (uw aP)/\((0:Int)<=aG/\aG<og ar/\ia aP+List.length (aj.ops g)<=1000000)/\ ∀(o':List au),o'=aP++rV Sw (aj.ops g)->bif Zj aG then post (PX.normal,S.mk 60 (gi ar::OB Sw::(5,qA o')::ZA aG) (uw o')) else False else post (PX.exit 0,S.mk 60 [(5,qA o)] (uw o)))=(aD [] [(6,ae (aL 76 6) qer)] 76 3 (ndH l b o i)) post:=by kernel_rfl
def gNd:S->K (PX×S):=fun s post=> ∃l b,s=ndH l b [] 0/\(l.length<=1000000/\df l<=1000)/\ ∀o,o=tc b l->post (.exit 0,⟨60,[(5,.sl 0 0 o.length)],[(0,⟨0,none,iq false o⟩)]⟩)
def ZcY (l:List aj) (b:Bool):S:=S.mk 60 (gi l::OB b::SL) [(0,Lq)]
theorem qiR (l:List aj) (b:Bool) (post:P×List (Nat×En)->Prop):(∃(ar:List aj) (Sw:Bool),ZcY l b=ZcY ar Sw/\Zcv ar/\ ∀(o:List au),o=tc Sw ar->post (qA o,uw o))=(aJ [] [(3,ae (aL 76 3) gNd)] 76 [bP l,.d (.bool b)] []) post:=by kernel_rfl
def qes:bq:=fun ps R post=> ∃l b,ps=[bP l,.d (.bool b)]/\R=[]/\(l.length<=1000000/\df l<=1000)/\ ∀o,o=tc b l->post (.sl 0 0 o.length,[(0,⟨0,none,iq false o⟩)])
theorem qiS (a b:List au) (post:P×List (Nat×En)->Prop):(bif Nat.ble 0 0&&aN (0+pL a) 24 then bif Nat.ble (0+pL a) (List.length ([]++gq a))&&aN (0+pL a+pL b) 24 then post (P.sl 0 0 (0+pL a+pL b),[(0,En.mk 0 none (Obj.arr (50:TypeId) false (List.take (0+pL a) ([]++gq a)++gq b)))]) else False else False)=(aJ [] [] 78 [cO a,cO b] []) post:=by kernel_rfl
def hJn:bq:=fun ps R post=> ∃a b,ps=[cO a,cO b]/\R=[]/\(a.length<=1000000/\b.length<=1000000)/\ ∀o,o=a++b->post (.sl 0 0 o.length,[(0,⟨0,none,iq false o⟩)])
theorem GL {l:List aj} {v:List Int} {i:Nat} (h:i<l.length):aS (l.take (i+1)) v=if l[i].n<=eo v l[i].s.2 then aS (l.take i) v++[l[i]] else aS (l.take i) v:=by
 unfold aS
 rw[zag h,zcl]
 by_cases hc:l[i].n<=eo v l[i].s.2
 ·rw[zao hc,zde (by simpa using hc)]
  rfl
 ·rw[zam hc,zdf (by simpa using hc),List.filter_nil,zbj]
theorem JR (l:List aj) (v:List Int):(aS l v).length<=l.length:=za4 _ _
section
variable {X:XF}
theorem qet:LD X 48 3 (ae (aL 48 3) gKn):=LD.idx (H:=[(13,Iu)]) (hk:=[]) (by kernel_rfl) (by kernel_rfl) (.cons yc .nil) .nil
 (A:=List aj×List Int) (B:=List aj) (fun a o i=>knH a.1 a.2 o i) (fun a=>a.1.length) (fun a i o=>(a.1.length<=1000000/\a.2.length<=1000000)/\o=aS (a.1.take i) a.2)
 (fun a x=>x=(.exit 0,⟨35,[(5,.sl 0 0 (aS a.1 a.2).length)],[(0,⟨0,none,oR false (aS a.1 a.2)⟩)]⟩))
 (by
  rintro⟨l,v⟩ o i post h0 bN bg ⟨hl,gf⟩ hn ho
  try dsimp only at*
  (rw[<-qbl];delta cP r3 Oq DZ fu oF Zg gQ Ae oE oS Af XC Zn ZA K0 Zk Zm cX gi Za Z9 Zj fC XD Zy Zz Zx Zt Zv ep ji oG)
  have e1:D.nth (l.map aU) i.toNat=aU l[i.toNat]:=ay _ _ _ bg
  have lX:o.length<=l.length:=by rw[gf];exact zaI (JR _ _) (by rw[zay];exact Nat.min_le_right _ _)
  have hk:=GL (v:=v) bg
  rw[<-gf] at hk
  have fB:i<((l.map aU).length:Int):=by rw[zaa];exact bN
  have Nr:i.toNat<(l.map aU).length:=by rw[zaa];exact bg
  rw[e1]
  generalize l[i.toNat]=g at*
  have p9:=ft g
  have t2:D.agg [D.int .i64 (D.ah (D.aq (aU g) 0)),D.int .i64 (D.ah (D.aq (aU g) 1)),D.int .i64 g.n,D.sl 1 (D.e8 (D.aq (aU g) 3)),D.int .i64 (D.ah (D.aq (aU g) 4)),D.int .i64 (D.ah (D.aq (aU g) 5)),D.sl 18 (D.e8 (D.aq (aU g) 6))]=aU g:=rfl
  have u2:D.ah (D.aq (aU g) 2)=g.n:=rfl
  refine ju (zaR fB) (ak ⟨h0,fB⟩ (ao p9 (ak ⟨h0,fB⟩ (ao p9 ⟨v,g.s.2,rfl,rfl,by omega,?_⟩))))
  rw[u2]
  refine cA (fun hc=>ak ⟨h0,fB⟩ (ao p9 (ao ?_ (ak (by omega) ?_)))) fun hc=>ak (by omega) ?_
  ·rw[zab]
   exact⟨by simp,cj (by omega) (by omega)⟩
  ·have:=hn (o++[g]) ⟨hl,by rw[hk,zao hc]⟩
   rw[t2,cq]
   simp only[knH,zan,zap,zat,zaF] at this
   exact this
  ·exact hn o ⟨hl,by rw[hk,zam hc]⟩)
 (by
  rintro⟨l,v⟩ o i post hi ⟨hl,gf⟩ ho
  try dsimp only at*
  (rw[<-qbl];delta cP r3 Oq DZ fu oF Zg gQ Ae oE oS Af XC Zn ZA K0 Zk Zm cX gi Za Z9 Zj fC XD Zy Zz Zx Zt Zv ep ji oG)
  have fB: ¬i<((l.map aU).length:Int):=by rw[zaa];omega
  rw[zak] at gf
  refine eA (zaL fB) (ho _ (fun h=>by cases h) ?_)
  rw[gf])
 (by
  rintro s post ⟨l,v,rfl,hl,hp⟩
  refine⟨(l,v),[],rfl,⟨hl,rfl⟩,?_⟩
  rintro x rfl
  exact hp _ rfl)
theorem qiT:FD X 48 hKn:=FD.mk (H:=[]) (hk:=[(3,ae (aL 48 3) gKn)]) (by kernel_rfl) .nil (.cons qet .nil) (by
 intro ps R post hh
 obtain⟨l,v,rfl,rfl,hl,hp⟩:=hh
 (rw[<-qiP];delta cP r3 Oq DZ fu oF G9 mx Ot Z5l Z7 Js ZQ SL Zk Zm cX gi)
 exact⟨l,v,rfl,hl,fun o ho=>hp o ho⟩)
theorem Uy:LD X 49 3 (ae (aL 49 3) Uw):=LD.idx (H:=[]) (hk:=[]) (by kernel_rfl) (by kernel_rfl) .nil .nil
 (A:=List aj) (B:=Int) (fun l t i=>Uv l t i) (fun l=>l.length) (fun l i t=>l.length<=1000000/\t=mQ (l.take i))
 (fun l x=>x=(.exit 0,⟨20,[(3,iD (mQ l))],[]⟩))
 (by
  rintro l t i post h0 bN bg ⟨hl,rfl⟩ hn ho
  try dsimp only at*
  (rw[<-qbm];delta Zt Zu Zn vi Zg cP gQ cX gi Za Z9 Zj ep fC ji oG)
  have e1:D.nth (l.map aU) i.toNat=aU l[i.toNat]:=ay _ _ _ bg
  have hk:=Gv bg
  have fB:i<((l.map aU).length:Int):=by rw[zaa];exact bN
  rw[e1]
  have p9:=ft l[i.toNat]
  refine ju (zaR fB) (ak ⟨h0,fB⟩ (ao p9 (ak (by omega) ?_)))
  have:=hn _ ⟨hl,rfl⟩
  rw[hk] at this
  exact this)
 (by
  rintro l t i post hi ⟨hl,ht⟩ ho
  try dsimp only at*
  (rw[<-qbm];delta Zt Zu Zn vi Zg cP gQ cX gi Za Z9 Zj ep fC ji oG)
  have fB: ¬i<((l.map aU).length:Int):=by rw[zaa];omega
  rw[zak] at ht
  refine eA (zaL fB) (ho _ (fun h=>by cases h) ?_)
  rw[ht])
 (by
  rintro s post ⟨l,rfl,hl,hp⟩
  refine⟨l,0,rfl,⟨hl,rfl⟩,?_⟩
  rintro x rfl
  exact hp _ rfl)
theorem qeu:FD X 49 Ux:=FD.mk (H:=[]) (hk:=[(3,ae (aL 49 3) Uw)]) (by kernel_rfl) .nil (.cons Uy .nil) (by
 intro ps R post hh
 obtain⟨l,rfl,rfl,hl,hp⟩:=hh
 (rw[<-qiQ];delta Zt fu mx Z7 M3 cP cX gi ZcU)
 exact⟨l,rfl,hl,fun t ht=>hp t ht⟩)
theorem qiU:FD X 78 hJn:=FD.mk (H:=[]) (hk:=[]) (by kernel_rfl) .nil .nil (by
 intro ps R post hh
 obtain⟨a,b,rfl,rfl,⟨ha,hb⟩,hp⟩:=hh
 (rw[<-qiS];delta gq pL)
 have:=hp (a++b) rfl
 have tk:List.take a.length (a.map bB)=a.map bB:=zai (by simp)
 simp only[zbh,zaF,zaa]
 rw[tk]
 refine ao ?_ (ao ?_ ?_)
 ·rw[zab]
  exact⟨by simp,cT (by omega) (by omega)⟩
 ·rw[zab]
  exact⟨by simp,cT (by omega) (by omega)⟩
 ·rw[<-zaB]
  rw[zan] at this
  exact this)
theorem NY {b:Bool} {l:List aW} {k:Nat} (h:k<l.length):rV b (l.take (k+1))=if l[k].kind=0/\l[k].dir=b then rV b (l.take k)++[l[k].node] else rV b (l.take k):=by
 unfold rV
 rw[zag h,zcl]
 split
 ·rename_i hc
  rw[zde (by simp[hc.1,hc.2])]
  simp
 ·rename_i hc
  rw[zdf (by rw[zab,zaS,zaS];exact hc)]
  simp
theorem NZ {b:Bool} {l:List aj} {i:Nat} (h:i<l.length):tc b (l.take (i+1))=tc b (l.take i)++rV b l[i].ops:=by
 unfold tc
 rw[zag h,zbF]
 simp
theorem qae:LD X 76 6 (ae (aL 76 6) qer):=LD.idx (H:=[]) (hk:=[]) (by kernel_rfl) (by kernel_rfl) .nil .nil
 (A:=List aj×Bool×List au×Int×aj) (B:=List au) (fun a o k=>ndI a.1 a.2.1 o a.2.2.2.1 k) (fun a=>a.2.2.2.2.ops.length)
 (fun a k o=>((0<=a.2.2.2.1/\a.2.2.2.1<a.1.length)/\D.nth (a.1.map aU) a.2.2.2.1.toNat=aU a.2.2.2.2/\a.2.2.1.length+a.2.2.2.2.ops.length<=1000000)/\o=a.2.2.1++rV a.2.1 (a.2.2.2.2.ops.take k))
 (fun a z=>z=(.exit 2,ndH a.1 a.2.1 (a.2.2.1++rV a.2.1 a.2.2.2.2.ops) a.2.2.2.1))
 (by
  rintro⟨l,b,o0,i,g⟩ o k post h0 tA dO ⟨⟨hb,hg,hl⟩,ho⟩ hn br
  try dsimp only at*
  (rw[<-qbn];delta gq Hi uw Zt ZK Jy ia qA Zn ZL gh OB cP cX gi Za Z9 Zj ZcX Zg gQ lv Zb9 Zb8 Zb7 ZcV pL Hk Hl NI Hm ep fC ji)
  have fB:0<=i/\i<((l.map aU).length:Int):=by rw[zaa];exact hb
  have u6:D.e8 (D.aq (aU g) 6)=g.ops.map eH:=rfl
  have e1:D.nth (g.ops.map eH) k.toNat=eH g.ops[k.toNat]:=ay _ _ _ dO
  have lL:=NY (b:=b) dO
  have lX:o.length<1000000:=by
   have:=GK b (g.ops.take k.toNat)
   rw[zay] at this
   rw[ho,zan]
   omega
  rw[hg,u6,e1]
  have JG:0<=k/\k<((g.ops.map eH).length:Int):=by rw[zaa];exact⟨h0,tA⟩
  generalize g.ops[k.toNat]=y at*
  have p9:=ft g
  have sr:=I2 y
  have c0:D.ah (D.aq (eH y) 0)=y.kind:=rfl
  have c1:D.e7 (D.aq (eH y) 8)=y.dir:=rfl
  have t2:D.agg [D.int .i64 (D.ah (D.aq (eH y) 1)),D.int .i64 (D.ah (D.aq (eH y) 2)),D.int .i64 (D.ah (D.aq (eH y) 3))]=bB y.node:=rfl
  rw[c0,c1,t2,cq]
  have bZ: ¬(y.kind=0/\y.dir=b)->o0++rV b (g.ops.take (k.toNat+1))=o:=fun h=>by
   rw[lL,ho,zam h]
  have dZ:y.kind=0->y.dir=b->o0++rV b (g.ops.take (k.toNat+1))=o++[y.node]:=fun h1 h2=>by
   rw[lL,ho,zao ⟨h1,h2⟩,zaY]
  refine ak fB (ao p9 (bJ JG.2 (ak fB (ao p9 (ak JG (ao sr (Bt (fun hk=>ak fB (ao p9 (ak JG (ao sr (ax (fun hx=>ak fB (ao p9 (ak JG (ao sr ?_)))) fun hx=>ak (by omega) (hn o ⟨⟨hb,hg,hl⟩,(bZ (fun hh=>by rw[hh.2] at hx;simp at hx)).symm⟩)))))) fun hk=>ak (by omega) (hn o ⟨⟨hb,hg,hl⟩,(bZ (fun hh=>hk hh.1)).symm⟩))))))))
  have hy:=hn (o++[y.node]) ⟨⟨hb,hg,hl⟩,(dZ hk (by simpa using hx)).symm⟩
  simp only[ndI,zan] at hy
  refine ao (ec rfl (by rw[zaa]) (by omega) (by decide)) (ak (by omega) ?_)
  exact hy)
 (by
  rintro⟨l,b,o0,i,g⟩ o k post hk ⟨⟨hb,hg,hl⟩,ho⟩ br
  try dsimp only at*
  (rw[<-qbn];delta gq Hi uw Zt ZK Jy ia qA Zn ZL gh OB cP cX gi Za Z9 Zj ZcX Zg gQ lv Zb9 Zb8 Zb7 ZcV pL Hk Hl NI Hm ep fC ji)
  have fB:0<=i/\i<((l.map aU).length:Int):=by rw[zaa];exact hb
  have u6:D.e8 (D.aq (aU g) 6)=g.ops.map eH:=rfl
  rw[hg,u6]
  refine ak fB (ao (ft g) (lK (by rw[zaa];omega) (br _ (fun h=>by cases h) ?_)))
  rw[ho,zak])
 (by
  rintro s post ⟨l,b,o,i,g,hg,rfl,⟨h1,h2,h3⟩,hp⟩
  refine⟨(l,b,o,i,g),o,rfl,⟨⟨⟨h1,h2⟩,hg,h3⟩,by simp[rV]⟩,?_⟩
  rintro z rfl
  exact hp _ rfl)
theorem qev:LD X 76 3 (ae (aL 76 3) gNd):=LD.idx (H:=[]) (hk:=[(6,ae (aL 76 6) qer)]) (by kernel_rfl) (by kernel_rfl) .nil (.cons qae .nil)
 (A:=List aj×Bool) (B:=List au) (fun a o i=>ndH a.1 a.2 o i) (fun a=>a.1.length)
 (fun a i o=>(a.1.length<=1000000/\df a.1<=1000)/\o=tc a.2 (a.1.take i))
 (fun a z=>z=(.exit 0,⟨60,[(5,.sl 0 0 (tc a.2 a.1).length)],[(0,⟨0,none,iq false (tc a.2 a.1)⟩)]⟩))
 (by
  rintro⟨l,b⟩ o i post h0 bN bg ⟨hc,ho⟩ hn br
  try dsimp only at*
  (rw[<-qbo];delta Zn ZA Za Z9 Zj ia fu og gq Hi uw Z7 rB Zt ZK qA gh OB cP cX gi fC oG)
  have lL:=NZ (b:=b) bg
  have h2:=qj l (i.toNat+1)
  have h3:=rP bg
  have h4:=mW b (l.take i.toNat)
  rw[<-ho] at h4
  refine bJ (by rw[zaa];exact bN) ⟨l,b,o,i,l[i.toNat],ay _ _ _ bg,rfl,⟨h0,bN,by omega⟩,fun o' gf=>ak (by omega) (hn o' ⟨hc,?_⟩)⟩
  rw[gf,ho,lL])
 (by
  rintro⟨l,b⟩ o i post hi ⟨hc,ho⟩ br
  try dsimp only at*
  (rw[<-qbo];delta Zn ZA Za Z9 Zj ia fu og gq Hi uw Z7 rB Zt ZK qA gh OB cP cX gi fC oG)
  refine lK (by rw[zaa];omega) (br _ (fun h=>by cases h) ?_)
  rw[ho,zak])
 (by
  rintro s post ⟨l,b,rfl,hc,hp⟩
  refine⟨(l,b),[],rfl,⟨hc,rfl⟩,?_⟩
  rintro z rfl
  exact hp _ rfl)
theorem qg3:FD X 76 qes:=FD.mk (H:=[]) (hk:=[(3,ae (aL 76 3) gNd)]) (by kernel_rfl) .nil (.cons qev .nil) (by
 intro ps R post hh
 obtain⟨l,b,rfl,rfl,hs,hp⟩:=hh
 (rw[<-qiR];delta gq Hi uw ia qA fu mx Zcv Lq Z7 Js ZQ SL gh OB cP cX gi ZcY)
 exact⟨l,b,rfl,hs,fun o ho=>hp o ho⟩)
end
theorem Uz (r:bM):cC PR 165 (lx r)=true:=by kernel_rfl
theorem qg4 (r:gM):cC PR 112 (lx r)=true:=by kernel_rfl
theorem qiV (s:List UInt8):cC PR 9 (D.str s)=true:=by kernel_rfl
theorem N0 {x:au} {l:List aW} {k:Nat} (h:k<l.length):s9 x (l.take (k+1))=s9 x (l.take k)++DK x l[k]:=by
 unfold s9
 rw[zag h,zbF]
 simp
theorem JS {x:au} {l:List aj} {i:Nat} (h:i<l.length):fy (l.take (i+1)) x=fy (l.take i) x++s9 x l[i].ops:=by
 unfold fy
 rw[zag h,zbF]
 simp
section
variable {X:XF}
theorem UA:LD X 59 6 (ae (aL 59 6) Ui):=LD.idx (H:=[]) (hk:=[]) (by kernel_rfl) (by kernel_rfl) .nil .nil
 (A:=List aj×au×List bM×Int×aj) (B:=List bM) (fun a o k=>qab a.1 a.2.1 o a.2.2.2.1 k) (fun a=>a.2.2.2.2.ops.length)
 (fun a k o=>((0<=a.2.2.2.1/\a.2.2.2.1<a.1.length)/\D.nth (a.1.map aU) a.2.2.2.1.toNat=aU a.2.2.2.2/\a.2.2.1.length+a.2.2.2.2.ops.length<=1000000)/\o=a.2.2.1++s9 a.2.1 (a.2.2.2.2.ops.take k))
 (fun a z=>z=(.exit 2,rn9 a.1 a.2.1 (a.2.2.1++s9 a.2.1 a.2.2.2.2.ops) a.2.2.2.1))
 (by
  rintro⟨l,x,o0,i,g⟩ o k post h0 tA dO ⟨⟨hb,hg,hl⟩,ho⟩ hn br
  try dsimp only at*
  (rw[<-qbj];delta Zcr gP gO h9 gB gC oT vW Zcs Zt ZK Jy Zcq Zn ZL bT dF cP cX gi Za Z9 Zj Zct Zg gQ lv Zcp Hk Hl NI Hm ep fC ji)
  have fB:0<=i/\i<((l.map aU).length:Int):=by rw[zaa];exact hb
  have u6:D.e8 (D.aq (aU g) 6)=g.ops.map eH:=rfl
  have e1:D.nth (g.ops.map eH) k.toNat=eH g.ops[k.toNat]:=ay _ _ _ dO
  have lL:=N0 (x:=x) dO
  have lX:o.length<1000000:=by
   have:=y7 x (g.ops.take k.toNat)
   rw[zay] at this
   rw[ho,zan]
   omega
  rw[hg,u6,e1]
  have JG:0<=k/\k<((g.ops.map eH).length:Int):=by rw[zaa];exact⟨h0,tA⟩
  generalize g.ops[k.toNat]=y at*
  have p9:=ft g
  have sr:=I2 y
  have c0:D.ah (D.aq (eH y) 0)=y.kind:=rfl
  have c1:(D.ah (D.aq (eH y) 1)==x.1&&(D.ah (D.aq (eH y) 2)==x.2.1&&true)&&(D.ah (D.aq (eH y) 3)==x.2.2&&true))=(y.node==x):=s7 y.node x
  have t2:D.agg [D.int .i64 (D.ah (D.aq (eH y) 10)),D.int .i64 (D.ah (D.aq (eH y) 11)),D.int .i64 (D.ah (D.aq (eH y) 12)),D.int .i64 (D.ah (D.aq (eH y) 13)),D.int .i64 (D.ah (D.aq (eH y) 14)),D.int .i64 (D.ah (D.aq (eH y) 15)),D.str (D.eI (D.aq (eH y) 16))]=lx (y.after,y.elem,y.text):=rfl
  rw[c0,c1,t2,cq]
  have bZ: ¬(y.kind=3/\y.node=x)->o0++s9 x (g.ops.take (k.toNat+1))=o:=fun h=>by
   rw[lL,ho]
   have:DK x y=[]:=by unfold DK;rw[zam h]
   rw[this,zbj]
  have dZ:y.kind=3->y.node=x->o0++s9 x (g.ops.take (k.toNat+1))=o++[(y.after,y.elem,y.text)]:=fun h1 h2=>by
   rw[lL,ho,zaY]
   have:DK x y=[(y.after,y.elem,y.text)]:=by unfold DK;rw[zao ⟨h1,h2⟩]
   rw[this]
  refine ak fB (ao p9 (bJ JG.2 (ak fB (ao p9 (ak JG (ao sr (Bt (fun hk=>ax (fun hx=> ?_) fun hx=>ak (by omega) (hn o ⟨⟨hb,hg,hl⟩,(bZ (fun hh=>by rw[hh.2] at hx;simp at hx)).symm⟩)) fun hk=>ak (by omega) (hn o ⟨⟨hb,hg,hl⟩,(bZ (fun hh=>hk hh.1)).symm⟩))))))))
  have hy:=hn (o++[(y.after,y.elem,y.text)]) ⟨⟨hb,hg,hl⟩,(dZ hk (by simpa using hx)).symm⟩
  simp only[qab,zan] at hy
  refine ao (ec rfl (by rw[zaa]) (by omega) (by decide)) (ak (by omega) ?_)
  exact hy)
 (by
  rintro⟨l,x,o0,i,g⟩ o k post hk ⟨⟨hb,hg,hl⟩,ho⟩ br
  try dsimp only at*
  (rw[<-qbj];delta Zcr gP gO h9 gB gC oT vW Zcs Zt ZK Jy Zcq Zn ZL bT dF cP cX gi Za Z9 Zj Zct Zg gQ lv Zcp Hk Hl NI Hm ep fC ji)
  have fB:0<=i/\i<((l.map aU).length:Int):=by rw[zaa];exact hb
  have u6:D.e8 (D.aq (aU g) 6)=g.ops.map eH:=rfl
  rw[hg,u6]
  refine ak fB (ao (ft g) (lK (by rw[zaa];omega) (br _ (fun h=>by cases h) ?_)))
  rw[ho,zak])
 (by
  rintro s post ⟨l,x,o,i,g,hg,rfl,⟨h1,h2,h3⟩,hp⟩
  refine⟨(l,x,o,i,g),o,rfl,⟨⟨⟨h1,h2⟩,hg,h3⟩,by simp[s9]⟩,?_⟩
  rintro z rfl
  exact hp _ rfl)
theorem qaf:LD X 59 3 (ae (aL 59 3) qeg):=LD.idx (H:=[]) (hk:=[(6,ae (aL 59 6) Ui)]) (by kernel_rfl) (by kernel_rfl) .nil (.cons UA .nil)
 (A:=List aj×au) (B:=List bM) (fun a o i=>rn9 a.1 a.2 o i) (fun a=>a.1.length)
 (fun a i o=>(a.1.length<=1000000/\df a.1<=1000)/\o=fy (a.1.take i) a.2)
 (fun a z=>z=(.exit 0,⟨53,[(5,.sl 0 0 (fy a.1 a.2).length)],[(0,⟨0,none,Uh false (fy a.1 a.2)⟩)]⟩))
 (by
  rintro⟨l,x⟩ o i post h0 bN bg ⟨hc,ho⟩ hn br
  try dsimp only at*
  (rw[<-qbk];delta Zcr Zn ZA Za Z9 Zj fu og gP gO h9 gB gC oT vW Zcs Z7 rB Zt ZK Zcq bT dF cP cX gi fC oG)
  have lL:=JS (x:=x) bg
  have h1:=ql x (l.take (i.toNat+1))
  have h2:=qj l (i.toNat+1)
  have h3:=rP bg
  have h4:=ql x (l.take i.toNat)
  rw[<-ho] at h4
  refine bJ (by rw[zaa];exact bN) ⟨l,x,o,i,l[i.toNat],ay _ _ _ bg,rfl,⟨h0,bN,by omega⟩,fun o' gf=>ak (by omega) (hn o' ⟨hc,?_⟩)⟩
  rw[gf,ho,lL])
 (by
  rintro⟨l,x⟩ o i post hi ⟨hc,ho⟩ br
  try dsimp only at*
  (rw[<-qbk];delta Zcr Zn ZA Za Z9 Zj fu og gP gO h9 gB gC oT vW Zcs Z7 rB Zt ZK Zcq bT dF cP cX gi fC oG)
  refine lK (by rw[zaa];omega) (br _ (fun h=>by cases h) ?_)
  rw[ho,zak])
 (by
  rintro s post ⟨l,x,rfl,hc,hp⟩
  refine⟨(l,x),[],rfl,⟨hc,rfl⟩,?_⟩
  rintro z rfl
  exact hp _ rfl)
theorem qg5:FD X 59 qeh:=FD.mk (H:=[]) (hk:=[(3,ae (aL 59 3) qeg)]) (by kernel_rfl) .nil (.cons qaf .nil) (by
 intro ps R post hh
 obtain⟨l,x,rfl,rfl,hs,hp⟩:=hh
 (rw[<-qiO];delta Zcr fu mx Zcv gP gO h9 gB gC oT vW Z7 Js zt Z7E bT dF cP cX gi Zcu)
 exact⟨l,x,rfl,hs,fun o ho=>hp o ho⟩)
theorem UB:LD X 79 8 (ae (aL 79 8) Uj):=LD.ins (H:=[(14,lV)]) (hk:=[]) (by kernel_rfl) (by kernel_rfl) (.cons uk .nil) .nil
 (A:=List bc×List bc×au×Nat×Int) (α:=az) (fun a o k=>qac a.1 a.2.1 a.2.2.1 o a.2.2.2.1 a.2.2.2.2 k) lG (fun a=>a.2.2.2.1) (fun _=>True) (fun a o=>(.exit 2,⟨84,[(0,iX a.1),(1,iX a.2.1),(5,.ref 0 0 0),(7,.sl 1 0 a.2.2.2.1),(8,iD a.2.2.2.2)],[(0,⟨0,none,uy a.2.2.1⟩),(1,⟨0,none,lZ false o⟩)]⟩)) (fun _ _ h=>by cases h)
 (by
  rintro⟨h,g,v,n,i⟩ o k post _ h0 Hj lX hk hz bZ dZ
  try dsimp only at*
  subst Hj
  (rw[<-qei];delta eK oH gP gO h9 gB gC oT vW Zcx Zt vp Ny Zs Z7Q bT yH An wJ r7 Zc Xa Zg IY G8 Ac Zcw Zx kj km r1 oP ze Xb wH Za Z9 Zb vK K9 my Zr)
  refine cA (fun hp=> ?_) fun hp=>hz (by omega)
  have fW:k.toNat-1<o.length:=by omega
  have ek:(k-1).toNat=k.toNat-1:=by omega
  have e1:D.nth (o.map bh) k.toNat=bh o[k.toNat]:=ay _ _ _ hk
  have e2:D.nth (o.map bh) (k.toNat-1)=bh o[k.toNat-1]:=ay _ _ _ fW
  have bZ:=bZ hp
  have dZ:=dZ hp
  have yN:=kB bh o k.toNat o[k.toNat] o[k.toNat-1]
  have e3: ∀z,D.nth ((o.map bh).set k.toNat z) (k.toNat-1)=bh o[k.toNat-1]:=fun z=>by
   unfold D.nth
   rw[zac,zaW (by omega)]
   simp[fW]
  rw[ek,e1,e2]
  simp only[e3]
  generalize o[k.toNat]=x at*
  generalize o[k.toNat-1]=y at*
  simp only[zaa,zbg] at dZ⊢
  have yO:0<=k/\k<(o.length:Int):=⟨h0,by omega⟩
  have yP:0<=k-1/\k-1<(o.length:Int):=⟨by omega,by omega⟩
  have hf:(-9223372036854775808:Int)<=k-1/\k-1<=9223372036854775807:=by omega
  refine ak yO (ak hk (ao (jP _) (ak hf (ak yP (ak fW (ao (jP _) ⟨x,y,rfl,rfl,fun b hb=>ax (fun h=> ?_) fun h=>bZ (by rw[<-hb];exact h)⟩))))))
  have hy:=dZ (by rw[<-hb];exact h)
  simp only[qac,lZ] at hy
  rw[<-yN] at hy
  refine ak hf (ak hf (ak yP (ak fW (ao (jP _) (ak yO (ak hk (ao (jP _) (ak yO (ak hk (ao (jP _) (ak yP (ak fW (ao (jP _) (ak hf ?_))))))))))))))
  exact hy)
 (by
  rintro s post ⟨h,g,v,o,x,n,i,k,rfl,⟨hk,hn,ho⟩,hp⟩
  refine⟨(h,g,v,n,i),o,x,k,rfl,hk,trivial,⟨hn.symm,ho⟩,?_⟩
  have:=hp _ rfl
  rw[of9,ln,<-hn] at this
  exact this)
theorem qag:LD X 79 3 (ae (aL 79 3) qej):=LD.idx (H:=[(92,SD),(42,Gs)]) (hk:=[(8,ae (aL 79 8) Uj)]) (by kernel_rfl) (by kernel_rfl) (.cons qa0 (.cons SO .nil)) (.cons UB .nil)
 (A:=List bc×List bc×au) (B:=List az) (fun a o i=>of9 a.1 a.2.1 a.2.2 o i) (fun a=>a.1.length) (fun a i o=>(a.1.length<=1000000/\a.2.1.length<=1000000)/\o=sJ (a.1.take i) a.2.1 a.2.2)
 (fun a x=>x=(.exit 0,⟨84,[(7,.sl 0 0 (sJ a.1 a.2.1 a.2.2).length)],[(0,⟨0,none,lZ false (sJ a.1 a.2.1 a.2.2)⟩)]⟩))
 (by
  rintro⟨h,g,v⟩ o i post h0 bN bg ⟨hm,ho⟩ hn br
  try dsimp only at*
  (rw[<-Uk];delta eK oH Nd Zt Z7U gP gO h9 gB gC oT vW vp Za Z9 Zg yK Z8n eu Zcz Zcx Zn qz bT yH An wJ r7 Zj VC rN RX D2 kj km r1 oP zq BB Zx Z8o Zcy Nw Nx Yi)
  have lX:o.length<=i.toNat:=by
   rw[ho]
   exact DM _ (by omega)
  have e1:D.nth (h.map jz) i.toNat=jz h[i.toNat]:=ay _ _ _ bg
  have kC:=DL (g:=g) (x:=v) bg
  rw[<-ho] at kC
  have fT:=fun o' (gf:o'=OA g v o h[i.toNat])=>hn o' ⟨hm,by rw[kC];exact gf⟩
  generalize h[i.toNat]=d at*
  rw[e1]
  simp only[zaa]
  have t1:List.take o.length (o.map bh)++[bh d.2]=(o++[d.2]).map bh:=cq bh o d.2
  have c1:(D.ah (D.aq (jz d) 0)==v.1&&(D.ah (D.aq (jz d) 1)==v.2.1&&true)&&(D.ah (D.aq (jz d) 2)==v.2.2&&true))=(d.1==v):=s7 d.1 v
  rw[c1]
  refine bJ bN (ak ⟨h0,bN⟩ (ao (Jz _) (ax (fun hx=>ak (by omega) (fT o ?_)) fun hx=>ak ⟨h0,bN⟩ (ao (Jz _) ⟨g,d,rfl,rfl,hm.2,fun b hb=> ?_⟩))))
  ·unfold OA
   rw[zao (.inl (by simpa using hx))]
  have zY: ¬d.1≠v:=by simpa using hx
  refine ax (fun DY=>ak (by omega) (fT o ?_)) fun BD=>ak ⟨h0,bN⟩ (ao (Jz _) ⟨o,d.2,rfl,rfl,by omega,fun b2 cm=>ax (fun SQ=>ak (by omega) (fT o ?_)) fun SR=> ?_⟩)
  ·unfold OA
   rw[hb,zah] at DY
   rw[zao (.inr (.inl DY))]
  ·unfold OA
   rw[cm,zah] at SQ
   rw[zao (.inr (.inr SQ))]
  ·rw[hb,zaO] at BD
   rw[cm,zaO] at SR
   have SS:OA g v o d=cJ lG o d.2:=by
    unfold OA
    rw[zam (fun hh=>hh.elim zY fun hh=>hh.elim BD SR)]
   simp only[zap,zat,zaF]
   refine ak ⟨h0,bN⟩ (ao (Jz _) (ao ?_ (ak (by omega) ⟨h,g,v,o,d.2,o.length+1,i,((o.length+1:Nat):Int)-1,congrArg (fun z=>(⟨84,[(0,iX h),(1,iX g),(5,.ref 0 0 0),(7,.sl 1 0 (o.length+1)),(8,iD i),(9,iD (((o.length+1:Nat):Int)-1))],[(0,⟨0,none,uy v⟩),(1,⟨0,none,.arr 30 false z⟩)]⟩:S)) t1,⟨by omega,rfl,by omega⟩,fun o' gf=>ak (by omega) (fT o' (by rw[SS];exact gf))⟩)))
   rw[zab]
   exact⟨by simp,cj (by omega) (by omega)⟩)
 (by
  rintro⟨h,g,v⟩ o i post hi ⟨hm,ho⟩ br
  try dsimp only at*
  (rw[<-Uk];delta eK oH Nd Zt Z7U gP gO h9 gB gC oT vW vp Za Z9 Zg yK Z8n eu Zcz Zcx Zn qz bT yH An wJ r7 Zj VC rN RX D2 kj km r1 oP zq BB Zx Z8o Zcy Nw Nx Yi)
  refine lK (by simp only[zaa];omega) (br _ (fun h=>by cases h) ?_)
  rw[ho,zak])
 (by
  rintro s post ⟨h,g,v,rfl,hs,hp⟩
  refine⟨(h,g,v),[],rfl,⟨hs,rfl⟩,?_⟩
  rintro x rfl
  exact hp _ rfl)
theorem qg6:FD X 79 qek:=FD.mk (H:=[]) (hk:=[(3,ae (aL 79 3) qej)]) (by kernel_rfl) .nil (.cons qag .nil) (by
 intro ps R post hh
 obtain⟨h,g,v,rfl,rfl,hs,hp⟩:=hh
 (rw[<-qg0];delta eK oH Nd eu zq BB vU gP gO h9 gB gC oT vW Z7 Jr zt bT yH An wJ r7 ZcA)
 exact⟨h,g,v,rfl,hs,fun o ho=>hp o ho⟩)
theorem UC:LD X 107 13 (ae (aL 107 13) Un):=LD.idx (H:=[]) (hk:=[]) (by kernel_rfl) (by kernel_rfl) .nil .nil
 (A:=List bM×List gM×List (List UInt8)×au×au×Bool×Int×Int) (B:=Bool) (fun a b j=>qel a.1 a.2.1 a.2.2.1 a.2.2.2.1 a.2.2.2.2.1 b a.2.2.2.2.2.2.1 a.2.2.2.2.2.2.2 j) (fun a=>a.2.1.length)
 (fun a j b=>a.2.1.length<=1000000/\b=(a.2.2.2.2.2.1 || (a.2.1.take j).any fun e=>e.1==a.2.2.2.2.1))
 (fun a z=>z=(.exit 4,⟨86,[(0,JP a.1),(3,.sl 0 0 a.2.1.length),(4,iD a.2.2.2.2.2.2.1),(5,.sl 1 0 a.2.2.1.length),(7,.ref 2 0 0),(8,iD a.2.2.2.2.2.2.2),(9,.ref 3 0 0),(10,.d (.bool (a.2.2.2.2.2.1 ||a.2.1.any fun e=>e.1==a.2.2.2.2.1)))],[(0,⟨0,none,vY false a.2.1⟩),(1,⟨0,none,qaa false a.2.2.1⟩),(2,⟨0,none,uy a.2.2.2.1⟩),(3,⟨0,none,uy a.2.2.2.2.1⟩)]⟩))
 (by
  rintro⟨l,o,p,a,x,h,i,k⟩ b j post h0 Ex Bx ⟨hc,hb⟩ hn br
  try dsimp only at*
  (rw[<-Um];delta gh gP h9 Zg gO gB gC oT QJ KK uz ZcH Zn Z4M ZO ZcF Zt vp r6 Hr JQ nf Ec BP Za Z9 Zj)
  have e1:D.nth (o.map lx) j.toNat=lx o[j.toNat]:=ay _ _ _ Bx
  have lL:((o.take (j.toNat+1)).any fun e=>e.1==x)=((o.take j.toNat).any (fun e=>e.1==x)||o[j.toNat].1==x):=by
   rw[zag Bx,zcf,zda,List.any_nil,zbT]
  rw[e1]
  generalize o[j.toNat]=e at*
  have c1:(D.ah (D.aq (lx e) 0)==x.1&&(D.ah (D.aq (lx e) 1)==x.2.1&&true)&&(D.ah (D.aq (lx e) 2)==x.2.2&&true))=(e.1==x):=s7 e.1 x
  rw[c1]
  refine bJ Ex (ax (fun DY=>ak (by omega) (hn true ⟨hc,?_⟩)) fun BD=>ak ⟨h0,Ex⟩ (ak (by rw[zaa];exact Bx) (ao (qg4 _) (ak (by omega) (hn _ ⟨hc,?_⟩)))))
  ·rw[lL,<-zdb,<-hb,DY]
   rfl
  ·rw[lL,<-zdb,<-hb,BD]
   rfl)
 (by
  rintro⟨l,o,p,a,x,h,i,k⟩ b j post hj ⟨hc,hb⟩ br
  try dsimp only at*
  (rw[<-Um];delta gh gP h9 Zg gO gB gC oT QJ KK uz ZcH Zn Z4M ZO ZcF Zt vp r6 Hr JQ nf Ec BP Za Z9 Zj)
  refine lK (by omega) (br _ (fun h=>by cases h) ?_)
  rw[hb,zak])
 (by
  rintro s post ⟨l,o,p,a,x,h,i,k,rfl,hc,hp⟩
  refine⟨(l,o,p,a,x,h,i,k),h,rfl,⟨hc,by simp⟩,?_⟩
  rintro z rfl
  exact hp _ rfl)
theorem UD:LD X 107 8 (ae (aL 107 8) Ur):=LD.idx (H:=[]) (hk:=[(13,ae (aL 107 13) Un)]) (by kernel_rfl) (by kernel_rfl) .nil (.cons UC .nil)
 (A:=List bM×List gM×List (List UInt8)×bM×Int) (B:=List gM) (fun a o k=>Ul a.1 o a.2.2.1 (Y7 a.2.2.2.1 k.toNat) a.2.2.2.2 k) (fun a=>a.2.2.1.length)
 (fun a k o=>((0<=a.2.2.2.2/\a.2.2.2.2<a.1.length)/\D.nth (a.1.map lx) a.2.2.2.2.toNat=lx a.2.2.2.1/\a.2.2.1.length<=100000/\a.2.1.length+a.2.2.1.length<=1000000/\(0<=a.2.2.2.1.2.1.2.2/\a.2.2.2.1.2.1.2.2<=1000000000000))/\o=LC a.2.2.2.1 a.2.1 (a.2.2.1.take k))
 (fun a z=>z=(.exit 2,el9 a.1 (LC a.2.2.2.1 a.2.1 a.2.2.1) a.2.2.2.2))
 (by
  rintro⟨l,o0,p,r,i⟩ o k post h0 tA dO ⟨⟨hi,hr,LV,hl,he⟩,ho⟩ hn br
  try dsimp only at*
  (rw[<-Uo];delta Zt nf Ai gP gO h9 gB gC oT X1 Zn qz Za Z9 Zj Zg ZcK jY QJ KK uz ZcH gh Z7 Z50 ZcF vp r6 Hr JQ Ec BP Ar ZcI)
  have fB:0<=i/\i<((l.map lx).length:Int):=by rw[zaa];exact hi
  have lX:o.length<=o0.length+k.toNat:=by rw[ho];exact DJ _ (by omega)
  have lL:=yY (r:=r) (o:=o0) dO
  rw[<-ho] at lL
  have e1:D.nth (p.map D.str) k.toNat=D.str p[k.toNat]:=ay _ _ _ dO
  rw[hr]
  have hx:(r.2.1.1,r.2.1.2.1,r.2.1.2.2+k)=zy r k.toNat:=by unfold zy;rw[Int.toNat_of_nonneg h0]
  have c3:D.ah (D.aq (lx r) 3)=r.2.1.1:=rfl
  have c4:D.ah (D.aq (lx r) 4)=r.2.1.2.1:=rfl
  have c5:D.ah (D.aq (lx r) 5)=r.2.1.2.2:=rfl
  rw[c3,c4,c5]
  have c1:(r.2.1.1==(0:Int)&&(r.2.1.2.1==(0:Int)&&true)&&(r.2.1.2.2+k==(0:Int)&&true))=(zy r k.toNat==aA):=by rw[<-hx];exact s7 (r.2.1.1,r.2.1.2.1,r.2.1.2.2+k) aA
  rw[c1]
  have ha:Y7 r (k+1).toNat=zy r k.toNat:=by rw[show(k+1).toNat=k.toNat+1 by omega];rfl
  have hn: ∀o',o'=Ud o (zy r k.toNat) (Y7 r k.toNat) p[k.toNat]->post (.normal,Ul l o' p (zy r k.toNat) i (k+1)):=fun o' h=>by
   have:=hn o' ⟨⟨hi,hr,LV,hl,he⟩,by rw[lL];exact h⟩
   rw[ha] at this
   exact this
  generalize Y7 r k.toNat=a at*
  refine bJ tA (ak fB (ao (Uz _) (ak fB (ao (Uz _) (ak (by omega) ⟨l,o,p,a,zy r k.toNat,zy r k.toNat==aA,i,k,by rw[<-hx],by omega,fun b hb=>ax (fun BD=> ?_) fun DY=> ?_⟩)))))
  ·have hs:Ud o (zy r k.toNat) a p[k.toNat]=o++[(zy r k.toNat,a,p[k.toNat])]:=by
    unfold Ud
    refine zam fun h=> ?_
    rw[zbs,hb,Bool.or_eq_false_iff] at BD
    rcases h with h |h
    ·rw[h] at BD;simp at BD
    ·rw[h] at BD;simp at BD
   have hy:=hn _ hs.symm
   rw[e1]
   have t2:D.agg [D.int .i64 (zy r k.toNat).1,D.int .i64 (zy r k.toNat).2.1,D.int .i64 (zy r k.toNat).2.2,D.int .i64 a.1,D.int .i64 a.2.1,D.int .i64 a.2.2,D.str (D.eI (D.str p[k.toNat]))]=lx (zy r k.toNat,a,p[k.toNat]):=rfl
   rw[t2,cq]
   simp only[Ul,zan] at hy
   refine ak ⟨h0,tA⟩ (ak (by rw[zaa];exact dO) (ao (qiV _) (ao (ec rfl (by rw[zaa]) (by omega) (by decide)) (ak (by omega) ?_))))
   exact hy
  ·have hs:Ud o (zy r k.toNat) a p[k.toNat]=o:=by
    unfold Ud
    refine zao ?_
    rw[zcP,hb,za9,zaS] at DY
    exact DY
   exact ak (by omega) (hn _ hs.symm))
 (by
  rintro⟨l,o0,p,r,i⟩ o k post hk ⟨⟨hi,hr,LV,hl,he⟩,ho⟩ br
  try dsimp only at*
  (rw[<-Uo];delta Zt nf Ai gP gO h9 gB gC oT X1 Zn qz Za Z9 Zj Zg ZcK jY QJ KK uz ZcH gh Z7 Z50 ZcF vp r6 Hr JQ Ec BP Ar ZcI)
  refine lK (by omega) (br _ (fun h=>by cases h) ?_)
  rw[ho,zak])
 (by
  rintro s post ⟨l,o,p,r,i,rfl,hc,hr,hp⟩
  refine⟨(l,o,p,r,i),o,rfl,⟨⟨⟨hc.1,hc.2.1⟩,hr,hc.2.2.2.1,hc.2.2.2.2.1,hc.2.2.2.2.2⟩,by simp[LC]⟩,?_⟩
  rintro z rfl
  exact hp _ rfl)
theorem qah:LD X 107 3 (ae (aL 107 3) qem):=LD.idx (H:=[(144,sS)]) (hk:=[(8,ae (aL 107 8) Ur)]) (by kernel_rfl) (by kernel_rfl) (.cons FU .nil) (.cons UD .nil)
 (A:=List bM) (B:=List gM) (fun l o i=>el9 l o i) (fun l=>l.length)
 (fun l i o=>mn l/\o=GF (l.take i))
 (fun l z=>z=(.exit 0,⟨86,[(3,.sl 0 0 (GF l).length)],[(0,⟨0,none,vY false (GF l)⟩)]⟩))
 (by
  rintro l o i post h0 bN bg ⟨hc,ho⟩ hn br
  try dsimp only at*
  (rw[<-Us];delta QJ KK JQ QK uz Zn vi Ec BP Za Z9 Zj ZcN Z7 Jr r6 Hr Zt nf ZcM Zg Ar ZcL Z1Q zt QL rC GZ Zx vb ZcI)
  have e1:D.nth (l.map lx) i.toNat=lx l[i.toNat]:=ay _ _ _ bg
  have lL:=yZ bg
  rw[<-ho] at lL
  have h1:=wP (l:=l) i.toNat (by omega)
  rw[<-ho] at h1
  have h2:=BO bg
  have h3:=Ue l (i.toNat+1)
  have h4:=hc.2.1
  have hl1:=hc.1
  have h5:=hc.2.2 _ (zas bg)
  have h6:=y8 l[i.toNat].2.2
  have fB:0<=i/\i<((l.map lx).length:Int):=by rw[zaa];exact⟨h0,bN⟩
  rw[e1]
  generalize l[i.toNat]=r at*
  have hn: ∀o',o'=elR o r->post (.normal,el9 l o' (i+1)):=fun o' h=>hn o' ⟨hc,by rw[lL];exact h⟩
  have qK: ∀p,p=pV r.2.2->0<=i/\i<(l.length:Int)/\l.length<=1000000/\p.length<=100000/\o.length+p.length<=1000000/\(0<=r.2.1.2.2/\r.2.1.2.2<=1000000000000):=fun p hp=>by
   subst hp
   exact⟨h0,bN,hc.1,by omega,by omega,h5.2⟩
  refine bJ fB.2 (ak fB (ao (Uz _) ⟨r.2.2,rfl,rfl,by omega,fun hv=>ak fB (ao (Uz _) ?_),fun hv p hp=>ak fB (ao (Uz _) ?_)⟩))
  ·have hp:[]=pV r.2.2:=by unfold pV;rw[hv];rfl
   exact⟨l,o,[],r,i,rfl,qK _ hp,e1,fun o' gf=>ak (by omega) (hn o' (by rw[gf];unfold elR;rw[<-hp]))⟩
  ·have hp:p=pV r.2.2:=by unfold pV;rw[hv,zao rfl];exact hp
   exact⟨l,o,p,r,i,rfl,qK _ hp,e1,fun o' gf=>ak (by omega) (hn o' (by rw[gf];unfold elR;rw[<-hp]))⟩)
 (by
  rintro l o i post hi ⟨hc,ho⟩ br
  try dsimp only at*
  (rw[<-Us];delta QJ KK JQ QK uz Zn vi Ec BP Za Z9 Zj ZcN Z7 Jr r6 Hr Zt nf ZcM Zg Ar ZcL Z1Q zt QL rC GZ Zx vb ZcI)
  refine lK (by rw[zaa];omega) (br _ (fun h=>by cases h) ?_)
  rw[ho,zak])
 (by
  rintro s post ⟨l,rfl,hc,hp⟩
  refine⟨l,[],rfl,⟨hc,rfl⟩,?_⟩
  rintro z rfl
  exact hp _ rfl)
theorem qg7:FD X 107 qen:=FD.mk (H:=[]) (hk:=[(3,ae (aL 107 3) qem)]) (by kernel_rfl) .nil (.cons qah .nil) (by
 intro ps R post hh
 obtain⟨l,rfl,rfl,hs,hp⟩:=hh
 (rw[<-qg1];delta uz Z7 M3 ZQ RH BP ZcO)
 exact⟨l,rfl,hs,fun o ho=>hp o ho⟩)
theorem UE:LD X 80 8 (ae (aL 80 8) Ut):=LD.ins (H:=[(88,iR)]) (hk:=[]) (by kernel_rfl) (by kernel_rfl) (.cons mM .nil) .nil
 (A:=List gM×Nat×Int) (α:=au) (fun a o k=>qad a.1 o a.2.1 a.2.2 k) mh (fun a=>a.2.1) (fun _=>True) (fun a o=>(.exit 2,⟨64,[(5,.sl 0 0 a.1.length),(6,.sl 1 0 a.2.1),(7,iD a.2.2)],[(0,⟨0,none,vY false a.1⟩),(1,⟨0,none,iq false o⟩)]⟩)) (fun _ _ h=>by cases h)
 (by
  rintro⟨l,n,i⟩ o k post _ h0 Hj lX hk hz bZ dZ
  try dsimp only at*
  subst Hj
  (rw[<-qeo];delta gq Hi uz Zt rR Ju VE ZcQ Zg IZ I0 I1 MW Zc Vd Vm Z8j Zs Z8i Sp Zx ZE GY Sq Oi pL Z8f wH Za Z9 Zb wz SH my Zr)
  refine cA (fun hp=> ?_) fun hp=>hz (by omega)
  have fW:k.toNat-1<o.length:=by omega
  have ek:(k-1).toNat=k.toNat-1:=by omega
  have e1:D.nth (o.map bB) k.toNat=bB o[k.toNat]:=ay _ _ _ hk
  have e2:D.nth (o.map bB) (k.toNat-1)=bB o[k.toNat-1]:=ay _ _ _ fW
  have bZ:=bZ hp
  have dZ:=dZ hp
  have yN:=kB bB o k.toNat o[k.toNat] o[k.toNat-1]
  have e3: ∀z,D.nth ((o.map bB).set k.toNat z) (k.toNat-1)=bB o[k.toNat-1]:=fun z=>by
   unfold D.nth
   rw[zac,zaW (by omega)]
   simp[fW]
  rw[ek,e1,e2]
  simp only[e3]
  generalize o[k.toNat]=x at*
  generalize o[k.toNat-1]=y at*
  simp only[zaa,zbg] at dZ⊢
  have yO:0<=k/\k<(o.length:Int):=⟨h0,by omega⟩
  have yP:0<=k-1/\k-1<(o.length:Int):=⟨by omega,by omega⟩
  have hf:(-9223372036854775808:Int)<=k-1/\k-1<=9223372036854775807:=by omega
  refine ak yO (ak hk (ao (lF _) (ak hf (ak yP (ak fW (ao (lF _) ⟨(x).1,(x).2.1,(x).2.2,(y).1,(y).2.1,(y).2.2,rfl,rfl,cA (fun h=> ?_) fun h=>bZ (by rw[<-zaV];exact fun h2=>h ((hZ (x) (y)).2 h2))⟩))))))
  have hy:=dZ ((hZ (x) (y)).1 h)
  simp only[qad,iq] at hy
  rw[<-yN] at hy
  refine ak hf (ak hf (ak yP (ak fW (ao (lF _) (ak yO (ak hk (ao (lF _) (ak yO (ak hk (ao (lF _) (ak yP (ak fW (ao (lF _) (ak hf ?_))))))))))))))
  exact hy)
 (by
  rintro s post ⟨l,o,x,n,i,k,rfl,⟨hk,hn,ho⟩,hp⟩
  refine⟨(l,n,i),o,x,k,rfl,hk,trivial,⟨hn.symm,ho⟩,?_⟩
  have:=hp _ rfl
  rw[es9,ln,<-hn] at this
  exact this)
theorem qai:LD X 80 4 (ae (aL 80 4) qep):=LD.idx (H:=[]) (hk:=[(8,ae (aL 80 8) Ut)]) (by kernel_rfl) (by kernel_rfl) .nil (.cons UE .nil)
 (A:=List gM) (B:=List au) (fun l o i=>es9 l o i) (fun l=>l.length) (fun l i o=>l.length<=1000000/\o=cc mh ((l.take i).map (·.1)))
 (fun l x=>x=(.exit 0,⟨64,[(6,.sl 0 0 (cc mh (l.map (·.1))).length)],[(0,⟨0,none,iq false (cc mh (l.map (·.1)))⟩)]⟩))
 (by
  rintro l o i post h0 bN bg ⟨hm,ho⟩ hn br
  try dsimp only at*
  (rw[<-Uu];delta gq Hi uw ia qA Zn ZL Za Z9 Zj pS vX Z8u Zt vp Ny Ju uz rR VE Zg ZcR ZcS pL)
  have lX:o.length<=i.toNat:=by
   rw[ho,mR,zaa,zay]
   exact Nat.min_le_left _ _
  have e1:D.nth (l.map lx) i.toNat=lx l[i.toNat]:=ay _ _ _ bg
  have kC:cc mh ((l.take (i.toNat+1)).map (·.1))=cJ mh o l[i.toNat].1:=by
   rw[zag bg,zaB,List.map_singleton,yE,ho]
  have fT:=fun o' (gf:o'=cJ mh o l[i.toNat].1)=>hn o' ⟨hm,by rw[kC];exact gf⟩
  generalize l[i.toNat]=d at*
  rw[e1]
  have t1:List.take o.length (o.map bB)++[bB d.1]=(o++[d.1]).map bB:=cq bB o d.1
  simp only[zaa,zap,zat,zaF]
  refine bJ bN (ak ⟨h0,bN⟩ (ak bg (ao (qg4 _) (ao ?_ (ak (by omega) ⟨l,o,d.1,o.length+1,i,((o.length+1:Nat):Int)-1,congrArg (fun z=>(⟨64,[(5,.sl 0 0 l.length),(6,.sl 1 0 (o.length+1)),(7,iD i),(8,iD (((o.length+1:Nat):Int)-1))],[(0,⟨0,none,vY false l⟩),(1,⟨0,none,.arr 50 false z⟩)]⟩:S)) t1,⟨by omega,rfl,by omega⟩,fun o' gf=>ak (by omega) (fT o' gf)⟩)))))
  rw[zab]
  exact⟨by simp,cj (by omega) (by omega)⟩)
 (by
  rintro l o i post hi ⟨hm,ho⟩ br
  try dsimp only at*
  (rw[<-Uu];delta gq Hi uw ia qA Zn ZL Za Z9 Zj pS vX Z8u Zt vp Ny Ju uz rR VE Zg ZcR ZcS pL)
  refine lK (by omega) (br _ (fun h=>by cases h) ?_)
  rw[ho,zak])
 (by
  rintro s post ⟨l,rfl,hs,hp⟩
  refine⟨l,[],rfl,⟨hs,rfl⟩,?_⟩
  rintro x rfl
  exact hp _ rfl)
theorem qg8:FD X 80 qeq:=FD.mk (H:=[(59,qeh),(107,qen)]) (hk:=[(4,ae (aL 80 4) qep)]) (by kernel_rfl) (.cons qg5 (.cons qg7 .nil)) (.cons qai .nil) (by
 intro ps R post hh
 obtain⟨l,x,rfl,rfl,⟨hs,h2,hr⟩,hp⟩:=hh
 (rw[<-qg2];delta gq Hi uw ia qA Lq uz Z7 rB zt Z7V VE ZcT fu mx Zcv Zx gP gO h9 gB gC uf iV cP cX)
 refine⟨l,x,rfl,rfl,⟨hs,h2⟩,fun r uC=>⟨r,by rw[zai (by simp)],rfl,by rw[uC];exact hr,fun o ho=>⟨o,rfl,?_,fun o' gf=>hp o' ?_⟩⟩⟩
 ·have:=wP (l:=r) _ (zaj _)
  rw[zak,<-ho] at this
  have:=hr.2.1
  rw[<-uC] at this
  omega
 ·rw[gf,ho,uC]
  rfl)
end
structure cB where
 what:Int
 r:Int
 a:Int
 b:Int
 c:Int
 see:Bool
abbrev uE (n:Int):D:= .int .u8 n
def vZ (x:cB):D:= .agg [uE x.what,uE x.r,uE x.a,uE x.b,uE x.c,.bool x.see]
structure DN (x:cB):Prop where
 what:0<=x.what/\x.what<=255
 r:0<=x.r/\x.r<=255
 a:0<=x.a/\x.a<=255
 b:0<=x.b/\x.b<=255
 c:0<=x.c/\x.c<=255
def wD (l:List aj) (K:List (List Int)):D:= .agg [.sl 7 (l.map aU),.sl 1 (K.map fun v=> .sl 1 (aZ v))]
def UF:bq:=fun ps R post=> ∃(l:List au) (n:Int),ps=[cO l,.d (uE n)]/\R=[]/\(l.length<=1000000/\0<=n/\n<=255)/\ ∀y,(y=aA\/y∈l)->post (.d (bB y),[])
def Zdc (x:cB) (o:List au):Int:=Int.tmod (cB.b x) (vX o)+(1:Int)+Int.tmod (cB.c x) (3:Int)
def Zd7 (x:cB):Bool:=decide (Z9<=cB.c x/\cB.c x<=Za)
def Zdb (post:P×List (Nat×En)->Prop):Prop:=post (P.cV (P.d (D.agg (Z7::Z7::Z7::Z7::Z7::Z7::Z7::zd::Z2P))::Va),[])
def Zdd (l:List aj) (y:au) (post:P×List (Nat×En)->Prop) (x:cB):Prop:= ∃(DO:List aj) (aI:au),cX l::iV y=cX DO::iV aI/\Zx/\(mx DO/\df DO<=1000/\mn (fy DO aI))/\ ∀(o:List au),o=JO DO aI->bif Z2y y then Zdb post else bif vX o==(0:Int) then Zdb post else bif decide (Z9<=cB.b x/\cB.b x<=Za) then bif !decide (vX o=(0:Int)) then bif decide (Z9<=Int.tmod (cB.b x) (vX o)+(1:Int)/\Int.tmod (cB.b x) (vX o)+(1:Int)<=Za) then bif Zd7 x then bif decide (Z9<=Zdc x o/\Zdc x o<=Za) then bif decide ((0:Int)<=min (vX o) (Zdc x o)/\min (vX o) (Zdc x o)<=vX o) then bif decide ((0:Int)<=Int.tmod (cB.b x) (vX o)/\Int.tmod (cB.b x) (vX o)<=(↑(Int.toNat (min (vX o) (Zdc x o))):Int)) then post (P.cV (P.d (D.agg [D.int .i64 (4:Int),gC y,gB y,gO y,Z7,Z7,Z7,zd,Z3,Oh,Z7,Z7,Z7,Z7,Z7,Z7,zd,D.sl 3 (List.take (Int.toNat (min (vX o) (Zdc x o))-Int.toNat (Int.tmod (cB.b x) (vX o))) (List.drop (Int.toNat (Int.tmod (cB.b x) (vX o))) (gq o)))])::Og),[]) else False else False else False else False else False else False else False
def Zd6 (y:au):List P:=[P.d (D.bool !Z2y y)]
def Zd8 (x:cB):Int:=Int.tmod (cB.c x) (5:Int)+(1:Int)
def Zd9 (x:cB):Int:=Zd8 x+Int.tmod (cB.c x) (2:Int)
def Zd3 (y:au) (mV:List au):Prop:=y=aA\/y∈mV
def Zd2 (mV:List au) (n:Int):Prop:=pS mV/\(0:Int)<=n/\n<=(255:Int)
def Zd0 (mV:List au) (n:Int):List P:=[lJ mV,P.d (D.int .u8 n)]
def Zda (x:cB) (l:List aj) (y:au) (post:P×List (Nat×En)->Prop) (s:az):Prop:=bif Zd7 x then∃(DO:List aj) (aI:au),cX l::iV y=cX DO::iV aI/\Zx/\(mx DO/\df DO<=1000/\mn (fy DO aI))/\ ∀(o:List au),o=JO DO aI-> ∃(l:List au) (n:Int),[TO o,P.d (D.int .u8 (cB.b x))]=Zd0 l n/\Zx/\Zd2 l n/\ ∀(C2:au),Zd3 C2 l->bif decide (Z9<=Zd8 x/\Zd8 x<=Za) then bif Zd7 x then bif decide (Z9<=Zd9 x/\Zd9 x<=Za) then bif decide ((0:Int)<=Zd9 x/\Zd9 x<=(6:Int)) then bif decide ((0:Int)<=Int.tmod (cB.c x) (5:Int)/\Int.tmod (cB.c x) (5:Int)<=(↑(Int.toNat (Zd9 x)):Int)) then post (P.cV (P.d (D.agg (D.int .i64 (3:Int)::gC y::gB y::gO y::Z7::Z7::Z7::zd::Z3::Oh::gC C2::gB C2::gO C2::km s::kj s::Z7::D.str (List.drop (Int.toNat (Int.tmod (cB.c x) (5:Int))) (List.take (Int.toNat (Zd9 x)) [(117:UInt8),(118:UInt8),(119:UInt8),(120:UInt8),(121:UInt8),(122:UInt8)]))::Z2N))::Zd6 y),[]) else False else False else False else False else False else False
def ZcZ (x:cB):Int:=IntKind.wrap IntKind.u8 (Int.tmod (cB.b x) (3:Int)+(1:Int))
def Zd5 (x:cB):D:=D.str (List.drop (Int.toNat (Int.tmod (cB.b x) (3:Int))) (List.take (Int.toNat (ZcZ x)) [(97:UInt8),(98:UInt8),(99:UInt8)]))
def UG (x:cB):Int:=Int.tmod (cB.what x) (8:Int)
def Zd1 (aP:List au) (x:cB) (mV:List au) (n:Int):Prop:=[TO aP,P.d (D.int .u8 (cB.a x))]=Zd0 mV n
theorem qiW (l:List aj) (s:az) (x:cB) (post:P×List (Nat×En)->Prop):(∃(ar:List aj) (b:Bool),cX l::Og=[cX ar,gh b]/\Zx/\Zcv ar/\ ∀(o:List au),o=tc b ar-> ∃(iF:List aj) (b:Bool),cX l::Va=[cX iF,gh b]/\Zx/\Zcv iF/\ ∀(aP:List au),aP=tc b iF->bif decide ((0:Int)<=ZcZ x/\ZcZ x<=(3:Int)) then bif decide ((0:Int)<=Int.tmod (cB.b x) (3:Int)/\Int.tmod (cB.b x) (3:Int)<=(↑(Int.toNat (ZcZ x)):Int)) then∃(mV:List au) (n:Int),Zd1 aP x mV n/\Zx/\Zd2 mV n/\ ∀(y:au),Zd3 y mV->bif UG x==(0:Int) then∃(l:List au) (n:Int),Zd1 o x l n/\Zx/\Zd2 l n/\ ∀(y:au),Zd3 y l->post (P.cV (P.d (D.agg (Z7::km s::kj s::Z7::gC y::gB y::gO y::Zd5 x::D.bool true::Oh::Vc))::Og),[]) else bif UG x==(1:Int) then∃(l:List au) (n:Int),Zd1 o x l n/\Zx/\Zd2 l n/\ ∀(y:au),Zd3 y l->post (P.cV (P.d (D.agg (Z7::km s::kj s::Z7::gC y::gB y::gO y::Zd5 x::Z2P))::Og),[]) else bif UG x==(2:Int) then∃(a:List au) (b:List au),[TO aP,TO o]=[lJ a,lJ b]/\Zx/\(pS a/\pS b)/\ ∀(TP:List au),TP=a++b-> ∃(l:List au) (n:Int),[TO TP,P.d (D.int .u8 (cB.c x))]=Zd0 l n/\Zx/\Zd2 l n/\ ∀(y:au),Zd3 y l-> ∃(l:List au) (n:Int),Zd1 o x l n/\Zx/\Zd2 l n/\ ∀(C2:au),Zd3 C2 l->post (P.cV (P.d (D.agg (ZR::gC y::gB y::gO y::gC C2::gB C2::gO C2::Zd5 x::Z2P))::Zd6 y),[]) else bif UG x==(3:Int) then∃(a:List au) (b:List au),[TO aP,TO o]=[lJ a,lJ b]/\Zx/\(pS a/\pS b)/\ ∀(o:List au),o=a++b-> ∃(DO:List au) (n:Int),[TO o,P.d (D.int .u8 (cB.c x))]=Zd0 DO n/\Zx/\Zd2 DO n/\ ∀(y:au),Zd3 y DO-> ∃(l_5:List aj),D7 l l_5/\Zx/\SmS l_5/\ ∀(o:List az) (t:Tl) (p:List Pl) (x:List It),o=M6 l_5->t=vV o (aH l_5)->p=TQ (aH l_5) t->x=qgS (aH l_5) t-> ∃(h:List bc) (g:List bc) (x:au),P.d (D.sl 5 (List.map jz (Tl.h t)))::P.d (D.sl 5 (List.map jz (Tl.g t)))::iV y=An h::An g::iV x/\Zx/\(BB h/\BB g)/\ ∀(o:List az),o=sJ h g x->post (P.cV (P.d (D.agg (WV::gC y::gB y::gO y::Z7::Z7::Z7::zd::Z3::TM o::Vc))::Zd6 y),[]) else bif UG x==(4:Int) then bif UG x==(4:Int) then Zda x l y post s else Zdd l y post x else bif UG x==(5:Int) then Zda x l y post s else Zdd l y post x else False else False)=(aJ [(76,qes),(77,UF),(78,hJn),(32,TR),(79,qek),(80,qeq)] [] 50 [bP l,.d (bh s),.d (vZ x)] []) post:=by kernel_rfl
def Zdf (l:List au) (n:Int) (c:Int):D:=D.nth (gq l) (Int.toNat (Int.tmod n (c+(1:Int))))
def Zde (n:Int):Bool:=decide (Z9<=n/\n<=Za)
theorem qew (l:List au) (n:Int) (post:P×List (Nat×En)->Prop):(bif Zde n then∀(c:Int),c=vf l->bif Zj c then bif !decide (c+(1:Int)=(0:Int)) then bif Int.tmod n (c+(1:Int))==vf l then post (P.d (D.agg [Z7,Z7,Z7]),[]) else bif decide ((0:Int)<=Int.tmod n (c+(1:Int))/\Int.tmod n (c+(1:Int))<vf l) then bif cC PR (50:TypeId) (Zdf l n c) then post (P.d (D.agg [D.int .i64 (D.ah (D.aq (Zdf l n c) 0)),D.int .i64 (D.ah (D.aq (Zdf l n c) 1)),D.int .i64 (D.ah (D.aq (Zdf l n c) 2))]),[]) else False else False else False else False else False)=(aJ [] [] 77 [cO l,.d (uE n)] []) post:=by kernel_rfl
def qex:bq:=fun ps R post=> ∃(i:Int) (l:List aj) (v:List Int) (r:Int) (x:cB),ps=[bP (aS l v),.d (bh (fP l v r)),.d (vZ x)]/\R=[]/\(bQ i l/\(0<=i/\i<=100)/\DN x)/\ ∀o (b:Bool),(b=true->OpW l v r o)->post (.cV [.d (eH o),.d (.bool b)],[])
abbrev arV (z:Bool) (l:List (List Int)):Obj:= .arr 31 z (l.map fun v=> .sl 1 (aZ v))
abbrev bxW (l:List aj) (K:List (List Int)):Obj:= .box 62 [bP l,.d (.sl 1 (K.map fun v=> .sl 1 (aZ v)))]
abbrev qey (x:cB):Obj:= .box 41 [.d (uE x.what),.d (uE x.r),.d (uE x.a),.d (uE x.b),.d (uE x.c),.d (.bool x.see)]
abbrev dn5 (l:List aj) (K:List (List Int)) (x:cB) (r:Int) (v:List Int) (i:Int):S:=⟨120,[(2,.ref 0 0 0),(3,.ref 1 0 0),(4,.ref 2 0 0),(5,iD r),(6,vD v),(7,iD i)],[(0,⟨0,none,bxW l K⟩),(1,⟨0,none,qey x⟩),(2,⟨0,none,.box 62 [.sl 3 0 0,.sl 4 0 0]⟩),(3,⟨0,none,oR false []⟩),(4,⟨0,none,arV false []⟩)]⟩
def Ed (K:List (List Int)):List D:=List.map (fun(v:List Int)=>D.sl 1 (aZ v)) K
def OC (l:List aj) (K:List (List Int)):Nat×En:=(0,En.mk 0 none (Obj.box (62:TypeId) [cX l,P.d (D.sl 1 (Ed K))]))
def Zdi (l:List aj) (K:List (List Int)) (x:cB):List (Nat×En):=[OC l K,(1,En.mk 0 none (Obj.box (41:TypeId) [P.d (D.int .u8 (cB.what x)),P.d (D.int .u8 (cB.r x)),P.d (D.int .u8 (cB.a x)),P.d (D.int .u8 (cB.b x)),P.d (D.int .u8 (cB.c x)),P.d (D.bool (cB.see x))])),(2,En.mk 0 none (Obj.box (62:TypeId) [P.sl 3 0 0,P.sl 4 0 0])),(3,Ot),(4,En.mk 0 none (Obj.arr (31:TypeId) false []))]
theorem qbp (l:List aj) (K:List (List Int)) (x:cB) (r:Int) (v:List Int) (i:Int) (post:PX×S->Prop):(bif decide (i<(↑(List.length (Ed K)):Int)) then bif decide ((0:Int)<=i/\i<(↑(List.length (Ed K)):Int)) then bif cC PR (31:TypeId) (D.nth (Ed K) (Zg i)) then∃(de:List Int) (w:List Int),[Zk v,P.d (D.sl 1 (D.e8 (D.nth (Ed K) (Zg i))))]=Zk de::ZW w/\Zx/\(iP de/\iP w)/\bif Zj i then post (PX.normal,S.mk 120 (I9::r4::(4,r6)::D6 r::(6,P.d (D.sl 1 (aZ (mg de w))))::ZL i) (Zdi l K x)) else False else False else False else post (PX.exit 0,S.mk 120 [I9,r4,(4,r6),D6 r,(6,Zk v)] (Zdi l K x)))=(aD [(47,Iw)] [] 29 5 (dn5 l K x r v i)) post:=by kernel_rfl
def mgA (v:List Int) (K:List (List Int)):List Int:=K.foldl mg v
def JT (v:List Int) (K:List (List Int)):Prop:=K.length<=1000/\db v=true/\ ∀w∈K,db w=true
def qez:S->K (PX×S):=fun s post=> ∃l K x r v,s=dn5 l K x r v 0/\JT v K/\ ∀w,w=mgA v K->post (.exit 0,⟨120,[(2,.ref 0 0 0),(3,.ref 1 0 0),(4,.ref 2 0 0),(5,iD r),(6,vD w)],[(0,⟨0,none,bxW l K⟩),(1,⟨0,none,qey x⟩),(2,⟨0,none,.box 62 [.sl 3 0 0,.sl 4 0 0]⟩),(3,⟨0,none,oR false []⟩),(4,⟨0,none,arV false []⟩)]⟩)
def UH (x:cB):Int:=(1:Int)+Int.tmod (cB.r x) (3:Int)
def Zdl (x:cB):Nat:=Int.toNat (UH x-(1:Int))
def N1 (q5:List (List Int)):List D:=[]++Ed q5
def Zdu (q5:List (List Int)):Nat:=0+List.length (Ed q5)
def ZdH (K:List (List Int)) (x:cB) (w:List Int):List D:=[D.sl 1 (List.take (Zdu K) (List.set (N1 K) (Zdl x) (D.aV (D.sl 1 (D.e8 (D.nth (N1 K) (Zdl x)))) [D.sl 1 (aZ w)])))]
def ZdG (x:cB) (K:List (List Int)):Bool:=decide ((0:Int)<=UH x-(1:Int)/\UH x-(1:Int)<(↑(Zdu K):Int))
def ZdF (o:aW):List D:=[Z7,Z7,D.sl 18 [Ab o]]
def VF (aI:cB):List P:=[P.d (D.agg [D.int .u8 (cB.what aI),D.int .u8 (cB.r aI),D.int .u8 (cB.a aI),D.int .u8 (cB.b aI),D.int .u8 (cB.c aI),D.bool (cB.see aI)])]
def ZdE (mV:List aj) (v:List Int) (DV:Int) (x:cB):List P:=P.d (D.sl 7 (List.map aU (aS mV v)))::P.d (D.agg [D.int .i64 (Prod.fst (fP mV v DV)),D.int .i64 (Prod.snd (fP mV v DV))])::VF x
def ZdC (q5:List (List Int)) (r:Int) (DT:List Int):List D:=[D.sl 1 (List.take (Zdu q5) (List.set (N1 q5) (Zc r) (D.aV (D.sl 1 (D.e8 (D.nth (N1 q5) (Zc r)))) [D.sl 1 (aZ DT)])))]
def ZdB (ar:List aj):List D:=List.take (0+fC ar) ([]++cP ar)
def Zds (o:List aj) (aI:cB):D:=D.nth (cP o) (Int.toNat (Int.tmod (cB.a aI) (og o)))
def ZdA (o:List aj) (aI:cB):List D:=[D.int .i64 (D.ah (D.aq (Zds o aI) 0)),D.int .i64 (D.ah (D.aq (Zds o aI) 1)),D.sl 18 []]
def Zdz (ar:List aj):Bool:=Nat.ble (0+fC ar) (List.length ([]++cP ar))
def Zdy (ar:List aj):Bool:=Nat.ble 0 0&&aN (0+fC ar) 88
def Zdw (r:Int) (q5:List (List Int)):Bool:=decide ((0:Int)<=r-(1:Int)/\r-(1:Int)<(↑(Zdu q5):Int))
def Zdv (q5:List (List Int)):Bool:=Nat.ble 0 0&&aN (Zdu q5) 24
def GM (l:List Int) (cz:Int):D:=D.int .i64 (eo l cz+(1:Int))
def Zdr (aI:cB) (o:List aj):Bool:=decide ((0:Int)<=Int.tmod (cB.a aI) (og o)/\Int.tmod (cB.a aI) (og o)<og o)
def Zdq (aI:cB):Bool:=decide (Z9<=cB.a aI/\cB.a aI<=Za)
def OD (ar:List aj) (q5:List (List Int)):P:=P.d (D.agg [D.sl 7 (cP ar),D.sl 1 (Ed q5)])
def Zdo (l:List Int) (cz:Int):Bool:=decide (Z9<=eo l cz+(1:Int)/\eo l cz+(1:Int)<=Za)
def OE (K:List (List Int)) (x:cB):D:=D.sl 1 (D.e8 (D.nth (Ed K) (Zdl x)))
def OG (x:cB):D:=D.int .i64 (UH x)
def Zdk (x:cB):Bool:=decide (Z9<=UH x-(1:Int)/\UH x-(1:Int)<=Za)
theorem qiX (l:List aj) (K:List (List Int)) (x:cB) (post:P×List (Nat×En)->Prop):(bif decide (Z9<=cB.r x/\cB.r x<=Za) then bif decide (Z9<=UH x/\UH x<=Za) then bif Zdk x then bif decide ((0:Int)<=UH x-(1:Int)/\UH x-(1:Int)<(↑(List.length (Ed K)):Int)) then bif cC PR (31:TypeId) (D.nth (Ed K) (Zdl x)) then bif cB.see x then∃(ar:List aj) (q5:List (List Int)) (aI:cB) (r:Int) (v:List Int),S.mk 120 (I9::r4::(4,r6)::(5,P.d (OG x))::(6,P.d (OE K x))::rB) (Zdi l K x)=S.mk 120 (I9::r4::(4,r6)::D6 r::(6,Zk v)::rB) (Zdi ar q5 aI)/\JT v q5/\ ∀(w:List Int),w=mgA v q5-> ∃(l:List aj) (v:List Int),cX ar::ZW w=cX l::ZW v/\Zx/\(mx l/\G9 v)/\ ∀(o:List aj),o=aS l v-> ∃(l:List Int) (cz:Int),Zw w r l cz/\Zx/\Zz l/\bif Zdo l cz then∃(iF:List aj),ZbP o iF/\Zx/\mx iF/\ ∀(t:Int),t=mQ iF->bif Zj t then bif UG aI==(7:Int) then bif og o==(0:Int) then post (OD ar q5,[]) else bif Zdq aI then bif !decide (og o=(0:Int)) then bif Zdr aI o then bif decide (Int.toNat (Int.tmod (cB.a aI) (og o))<fC o) then bif cC PR (34:TypeId) (Zds o aI) then∃(v:List Int) (DV:Int) (n:Int),[Zk w,P.d (Zt r),P.d (GM l cz)]=Z9c v DV n/\Zx/\Z9d v DV/\ ∀(DT:List Int),DT=bp (gI v DV n)->bif Zdv q5 then bif Zb r then bif Zdw r q5 then bif decide (Zc r<List.length (N1 q5)) then bif cC PR (31:TypeId) (D.nth (N1 q5) (Zc r)) then bif Zdy ar then bif Zdz ar&&aN (0+fC ar+List.length [D.agg (Zn t::Zt r::GM l cz::D.sl 1 (aZ w)::ZdA o aI)]) 88 then post (P.d (D.agg (D.sl 7 (List.take (0+fC ar+List.length [D.agg (Zn t::Zt r::GM l cz::D.sl 1 (aZ w)::ZdA o aI)]) (ZdB ar++[D.agg (Zn t::Zt r::GM l cz::D.sl 1 (aZ w)::ZdA o aI)]))::ZdC q5 r DT)),[]) else False else False else False else False else False else False else False else False else False else False else False else False else∃(i:Int) (mV:List aj) (v:List Int) (DV:Int) (x:cB),ZbO o::P.d (D.agg (Zn t::ZE r))::VF aI=ZdE mV v DV x/\Zx/\(bQ i mV/\((0:Int)<=i/\i<=(100:Int))/\DN x)/\ ∀(o:aW) (b:Bool),(b=true->OpW mV v DV o)->bif jY b then post (OD ar q5,[]) else∃(v:List Int) (r_3:Int) (n:Int),[Zk w,P.d (Zt r),P.d (GM l cz)]=Z9c v r_3 n/\Zx/\Z9d v r_3/\ ∀(DT:List Int),DT=bp (gI v r_3 n)->bif Zdv q5 then bif Zb r then bif Zdw r q5 then bif decide (Zc r<List.length (N1 q5)) then bif cC PR (31:TypeId) (D.nth (N1 q5) (Zc r)) then bif Zdy ar then bif Zdz ar&&aN (0+fC ar+List.length [D.agg (Zn t::Zt r::GM l cz::D.sl 1 (aZ w)::ZdF o)]) 88 then post (P.d (D.agg (D.sl 7 (List.take (0+fC ar+List.length [D.agg (Zn t::Zt r::GM l cz::D.sl 1 (aZ w)::ZdF o)]) (ZdB ar++[D.agg (Zn t::Zt r::GM l cz::D.sl 1 (aZ w)::ZdF o)]))::ZdC q5 r DT)),[]) else False else False else False else False else False else False else False else False else False else∃(ar:List aj) (v:List Int),[cX l,P.d (OE K x)]=cX ar::ZW v/\Zx/\(mx ar/\G9 v)/\ ∀(o:List aj),o=aS ar v-> ∃(iF:List Int) (r:Int),[P.d (OE K x),P.d (OG x)]=Zk iF::Zv r/\Zx/\Zz iF/\bif Zdo iF r then∃(mV:List aj),ZbP o mV/\Zx/\mx mV/\ ∀(t:Int),t=mQ mV->bif Zj t then bif UG x==(7:Int) then bif og o==(0:Int) then post (OD l K,[]) else bif Zdq x then bif !decide (og o=(0:Int)) then bif Zdr x o then bif decide (Int.toNat (Int.tmod (cB.a x) (og o))<fC o) then bif cC PR (34:TypeId) (Zds o x) then∃(v:List Int) (cz:Int) (n:Int),[P.d (OE K x),P.d (OG x),P.d (GM iF r)]=Z9c v cz n/\Zx/\Z9d v cz/\ ∀(w:List Int),w=bp (gI v cz n)->bif Zdv K then bif Zdk x then bif ZdG x K then bif decide (Zdl x<List.length (N1 K)) then bif cC PR (31:TypeId) (D.nth (N1 K) (Zdl x)) then bif Zdy l then bif Zdz l&&aN (0+fC l+List.length [D.agg (Zn t::OG x::GM iF r::OE K x::ZdA o x)]) 88 then post (P.d (D.agg (D.sl 7 (List.take (0+fC l+List.length [D.agg (Zn t::OG x::GM iF r::OE K x::ZdA o x)]) (ZdB l++[D.agg (Zn t::OG x::GM iF r::OE K x::ZdA o x)]))::ZdH K x w)),[]) else False else False else False else False else False else False else False else False else False else False else False else False else∃(i:Int) (DO:List aj) (v:List Int) (cz:Int) (aI:cB),ZbO o::P.d (D.agg [Zn t,OG x])::VF x=ZdE DO v cz aI/\Zx/\(bQ i DO/\((0:Int)<=i/\i<=(100:Int))/\DN aI)/\ ∀(o:aW) (b:Bool),(b=true->OpW DO v cz o)->bif jY b then post (OD l K,[]) else∃(v:List Int) (DV:Int) (n:Int),[P.d (OE K x),P.d (OG x),P.d (GM iF r)]=Z9c v DV n/\Zx/\Z9d v DV/\ ∀(w:List Int),w=bp (gI v DV n)->bif Zdv K then bif Zdk x then bif ZdG x K then bif decide (Zdl x<List.length (N1 K)) then bif cC PR (31:TypeId) (D.nth (N1 K) (Zdl x)) then bif Zdy l then bif Zdz l&&aN (0+fC l+List.length [D.agg (Zn t::OG x::GM iF r::OE K x::ZdF o)]) 88 then post (P.d (D.agg (D.sl 7 (List.take (0+fC l+List.length [D.agg (Zn t::OG x::GM iF r::OE K x::ZdF o)]) (ZdB l++[D.agg (Zn t::OG x::GM iF r::OE K x::ZdF o)]))::ZdH K x w)),[]) else False else False else False else False else False else False else False else False else False else False else False else False else False else False)=(aJ [(48,hKn),(13,Iu),(46,JC),(49,Ux),(50,qex)] [(5,ae (aL 29 5) qez)] 29 [.d (wD l K),.d (vZ x)] []) post:=by kernel_rfl
def BQ (i:Int) (l:List aj) (x:cB) (l':List aj) (K':List (List Int)):Prop:=bQ (i+1) l'/\oi (i+1) l' K'/\(x.what.tmod 8≠7->(∀g∈l,g.b7=(0,0))-> ∀g∈l',g.b7=(0,0))
def WOk (i:Int) (l:List aj) (K:List (List Int)):Prop:=bQ i l/\oi i l K/\0<=i/\i<=100
def LG:bq:=fun ps R post=> ∃(i:Int) (l:List aj) (K:List (List Int)) (x:cB),ps=[.d (wD l K),.d (vZ x)]/\R=[]/\(WOk i l K/\DN x)/\ ∀l' K',BQ i l x l' K'->post (.d (wD l' K'),[])
abbrev hi3 (m:List cB) (l:List aj) (K:List (List Int)) (i:Int):S:=⟨25,[(0,.d (.sl 6 (m.map vZ))),(3,.ref 0 0 0),(4,iD i)],[(0,⟨0,none,bxW l K⟩)]⟩
abbrev oM (m:List cB):S:=⟨25,[(0,.d (.sl 6 (m.map vZ))),(3,.ref 0 0 0),(4,iD 0)],[(0,⟨0,none,.box 62 [.d .fQ,.sl 1 0 3]⟩),(1,⟨0,none,arV false [[],[],[]]⟩)]⟩
def ZdK (m:List cB):Nat×P:=(0,P.d (D.sl 6 (List.map vZ m)))
def ZdJ (m:List cB) (i:Int):D:=D.nth (List.map vZ m) (Zg i)
def ZdI (m:List cB):Int:=(↑(List.length (List.map vZ m)):Int)
theorem qbq (m:List cB) (l:List aj) (K:List (List Int)) (i:Int) (post:PX×S->Prop):(bif decide (i<ZdI m) then bif decide (i<(16:Int)) then bif decide ((0:Int)<=i/\i<ZdI m) then bif cC PR (41:TypeId) (ZdJ m i) then∃(aG:Int) (ar:List aj) (q5:List (List Int)) (x:cB),[OD l K,P.d (D.agg [D.int .u8 (D.ah (D.aq (ZdJ m i) 0)),D.int .u8 (D.ah (D.aq (ZdJ m i) 1)),D.int .u8 (D.ah (D.aq (ZdJ m i) 2)),D.int .u8 (D.ah (D.aq (ZdJ m i) 3)),D.int .u8 (D.ah (D.aq (ZdJ m i) 4)),D.bool (D.e7 (D.aq (ZdJ m i) 5))])]=OD ar q5::VF x/\Zx/\(WOk aG ar q5/\DN x)/\ ∀(l':List aj) (K':List (List Int)),BQ aG ar x l' K'->bif Zj i then post (PX.normal,S.mk 25 (ZdK m::dF::vi i) [OC l' K']) else False else False else False else post (PX.exit 0,S.mk 25 Hf [OC l K]) else post (PX.exit 0,S.mk 25 Hf [OC l K]))=(aD [(29,LG)] [] 11 3 (hi3 m l K i)) post:=by kernel_rfl
def ZdM:List (Nat×En):=[(0,En.mk 0 none (Obj.box (62:TypeId) [P.d D.fQ,P.sl 1 0 3])),(1,En.mk 0 none (Obj.arr (31:TypeId) false [Lr,Lr,Lr]))]
def ZdL (m:List cB):D:=D.nth (List.map vZ m) 0
theorem qbr (m:List cB) (post:PX×S->Prop):(bif decide ((0:Int)<ZdI m) then bif decide ((0:Int)<=(0:Int)/\(0:Int)<ZdI m) then bif cC PR (41:TypeId) (ZdL m) then∃(i:Int) (l:List aj) (K:List (List Int)) (x:cB),[P.d (D.agg [D.sl 7 [],D.sl 1 [Lr,Lr,Lr]]),P.d (D.agg [D.int .u8 (D.ah (D.aq (ZdL m) 0)),D.int .u8 (D.ah (D.aq (ZdL m) 1)),D.int .u8 (D.ah (D.aq (ZdL m) 2)),D.int .u8 (D.ah (D.aq (ZdL m) 3)),D.int .u8 (D.ah (D.aq (ZdL m) 4)),D.bool (D.e7 (D.aq (ZdL m) 5))])]=OD l K::VF x/\Zx/\(WOk i l K/\DN x)/\ ∀(l':List aj) (K':List (List Int)),BQ i l x l' K'->post (PX.normal,S.mk 25 [ZdK m,dF,(4,P.d ZR)] [OC l' K']) else False else False else post (PX.exit 0,S.mk 25 Hf ZdM))=(aD [(29,LG)] [] 11 3 (oM m)) post:=by kernel_rfl
def y9 (m:List cB):Prop:=m.length<=9223372036854775807/\ ∀x∈m,DN x
def BR (m:List cB) (g:List aj):Prop:=bQ 16 g/\((∀x∈m,x.what.tmod 8≠7)-> ∀y∈g,y.b7=(0,0))
def qeA:S->K (PX×S):=fun s post=> ∃m,s=oM m/\y9 m/\post (.exit 0,⟨25,[(3,.ref 0 0 0)],[(0,⟨0,none,.box 62 [.d .fQ,.sl 1 0 3]⟩),(1,⟨0,none,arV false [[],[],[]]⟩)]⟩)/\ ∀l (K:List (List Int)),BR m l->post (.exit 0,⟨25,[(3,.ref 0 0 0)],[(0,⟨0,none,bxW l K⟩)]⟩)
theorem qg9 (m:List cB) (post:P×List (Nat×En)->Prop):(∃(bY:List cB),S.mk 25 (ZdK m::dF::M3) ZdM=S.mk 25 (ZdK bY::dF::M3) ZdM/\y9 bY/\post (ZQ,Z5l)/\ ∀(l:List aj) (_:List (List Int)),BR bY l->post (cX l,[]))=(aJ [] [(3,ae (aL 11 3) qeA)] 11 [.d (.sl 6 (m.map vZ))] []) post:=by kernel_rfl
def qeB:bq:=fun ps R post=> ∃m,ps=[.d (.sl 6 (m.map vZ))]/\R=[]/\y9 m/\post (.sl 0 0 0,[(0,⟨0,none,oR false []⟩)])/\ ∀g,BR m g->post (bP g,[])
section
variable {i:Int} {l:List aj} (h:bQ i l) (hi:0<=i/\i<=1000)
theorem bQ.right {i:Int} {l:List aj} (h:bQ i l):aH l=l:=Jd h.JL h.nd
include h hi
theorem bQ.time:0<=Pi.mQ l/\Pi.mQ l<=i:=⟨(pN _).1,Jg hi.1 _ fun g hg=>(h.sm g hg).2.1.1⟩
theorem bQ.qha (r:Int):0<=Br l r/\Br l r<=i:=⟨rK l r,Je l 0 hi.1 fun g hg=>(h.sm g hg).2.1.2⟩
theorem bQ.next {r:Int} (h1:1<=r) (h2:r<=16):pO l r=0:=by
 have:=h.time hi
 have:=h.qha hi r
 unfold pO
 rw[zam (by omega),zam (by omega)]
theorem bQ.oD:db (Pi.oD l)=true:=by
 have:=h
 have:=hi
 refine ux (rU fun j=>rK l _) ?_
 rw[jx]
 decide
end
abbrev UI (z w:Bool) (on:List az) (h:List Hd) (x:az) (e:Int):List (Nat×En):=[(0,⟨0,none,.box 30 [iD x.1,iD x.2]⟩),(1,⟨0,none,.box 35 [iD e]⟩),(2,⟨0,none,.box 51 [.sl 3 0 on.length]⟩),(3,⟨0,none,lZ w on⟩),(4,⟨0,none,.box 51 [.sl 5 0 h.length]⟩),(5,⟨0,none,lZ z (h.map (·.1))⟩),(6,⟨0,none,.box 51 [.sl 7 0 h.length]⟩),(7,⟨0,none,lZ z (h.map (·.2))⟩)]
abbrev qaj (l m:List aj) (r:Int) (on:List az) (h:List Hd) (i:Int):S:=⟨69,[(0,bP l),(1,iD r),(4,.ref 0 0 0),(5,.ref 1 0 0),(6,.ref 2 0 0),(7,.ref 4 0 0),(8,.ref 6 0 0),(20,.sl 8 0 m.length),(21,iD (m.length:Int)),(22,iD i)],UI false false on h (0,0) 0++[(8,⟨0,none,oR false m⟩)]⟩
abbrev qhb (l:List aj) (r:Int) (on:List az) (h:List Hd):S:=⟨69,[(0,bP l),(1,iD r),(4,.ref 0 0 0),(5,.ref 1 0 0),(6,.ref 2 0 0),(7,.ref 4 0 0),(8,.ref 6 0 0)],UI false false on h (0,0) 0⟩
def UJ (h:List Hd):Nat×En:=(6,En.mk 0 none (Obj.box (51:TypeId) [P.sl 7 0 (fN h)]))
def UK (h:List Hd):Nat×En:=(4,En.mk 0 none (Obj.box (51:TypeId) [P.sl 5 0 (fN h)]))
def ZdS (on:List az) (h:List Hd):List (Nat×En):=[wK,zx,zw on,Ly on,UK h,(5,TS h),UJ h,(7,TT h)]
def UL:Nat×P:=(8,P.ref 6 0 0)
def UM:Nat×P:=(7,P.ref 4 0 0)
def GN:List (Nat×P):=[Al,Jp,JK,UM,UL]
theorem qhc (l m:List aj) (r:Int) (on:List az) (h:List Hd) (i:Int) (post:PX×S->Prop):(bif Jj i m then bif vO i m then bif tC i m then bif ep m i then bif Nat.ble (fN h) (List.length (nV h))&&aN (Zce h m i) 16 then bif Nat.ble (fN h) (List.length (qh h))&&aN (Zcf h m i) 16 then bif Zj i then post (PX.normal,S.mk 69 [gi l,ZF r,Al,Jp,JK,UM,UL,(20,P.sl 8 0 (fu m)),(21,BF m),(22,P.d (Zn i))] [wK,zx,zw on,Ly on,(4,En.mk 0 none (Obj.box (51:TypeId) [P.sl 5 0 (Zce h m i)])),(5,Zch h m i),(6,En.mk 0 none (Obj.box (51:TypeId) [P.sl 7 0 (Zcf h m i)])),(7,Zcg h m i),(8,r3 m)]) else False else False else False else False else False else False else post (PX.exit 0,S.mk 69 (gi l::ZF r::GN) (ZdS on h)))=(eX [] [] [] 17 3 (qaj l m r on h i)) post:=by kernel_rfl
abbrev N2:Option (List Nat×List Nat):=some ([4,5,6,7,8],[4,5,6,7,8])
abbrev tf (z w:Bool) (on:List az) (h:List Hd) (x:az) (e:Int):S:=⟨69,[(4,.ref 0 0 0),(5,.ref 1 0 0),(6,.ref 2 0 0),(7,.ref 4 0 0),(8,.ref 6 0 0)],UI z w on h x e⟩
def ZdU (h:List Hd):List (Nat×En):=[UK h,(5,En.mk 0 none (Obj.arr (30:TypeId) true (nV h))),UJ h,(7,En.mk 0 none (Obj.arr (30:TypeId) true (qh h)))]
def ZdY (on:List az) (h:List Hd):S:=S.mk 69 GN (wK::zx::zw on::Ly on::ZdU h)
def ZdV (on:List az) (h:List Hd):S:=S.mk 69 GN (wK::zx::zw on::YU on::ZdU h)
def ZdW (i:Int) (post:PX×S×PX×S->Prop) (own:List aj) (on:List az) (h:List Hd):Prop:=bif Zj i then post (PX.normal,TL own i,PX.normal,ZdV on h) else False
def ZdX (on:List az) (own:List aj) (i:Int) (post:PX×S×PX×S->Prop) (h:List Hd):Prop:= ∃(l:List az) (s:az),P.d (TM on)::RG own i=uj l::oP s/\Zx/\rN l/\ ∀(b:Bool),VC b l s->bif b then post (PX.ret,JJ own,PX.ret,S.mk 69 GN (Zbx own i::zx::zw on::YU on::ZdU h)) else ZdW i post own on h
def ZdT (h:List Hd) (own:List aj) (i:Int) (l:List Hd) (x:az):Prop:=P.d (D.sl 2 (List.take (fN h) (nV h)))::P.d (D.sl 2 (List.take (fN h) (qh h)))::RG own i=P.d (D.sl 2 (nV l))::P.d (D.sl 2 (qh l))::oP x
def ZdZ (h:List Hd) (own:List aj) (i:Int) (on:List az) (post:PX×S×PX×S->Prop):Prop:= ∃(l:List Hd) (x:az),ZdT h own i l x/\Zx/\Tf l/\ ∀(e:Int) (r:az) (ev:Bool),oe l x=(e,r,ev)->bif e==(0:Int) then bif jY ev then ZdX on own i post h else bif Zj i then post (PX.normal,TL own i,PX.normal,ZdY on h) else False else bif Zj i then post (PX.normal,TL own i,PX.normal,ZdY on h) else False
theorem qiY (own:List aj) (on:List az) (h:List Hd) (i:Int) (post:PX×S×PX×S->Prop):(bif oG i own then bif ji i own then bif ep own i then bif VD own i then post (PX.ret,JJ own,PX.exit 2,S.mk 69 GN (ZdS on h)) else ZdZ h own i on post else False else False else post (PX.exit 0,JJ own,PX.normal,S.mk 69 GN (ZdS on h)))=(lY [(37,hEr),(38,GB)] [] 17 9 2000000 N2 1 DE 1 (zu own i,(.normal,tf false false on h (0,0) 0))) post:=by kernel_rfl
theorem qiZ (own:List aj) (on:List az) (h:List Hd) (i:Int) (post:PX×S×PX×S->Prop):(bif oG i own then bif ji i own then bif ep own i then bif VD own i then post (PX.ret,JJ own,PX.exit 2,ZdY on h) else ZdZ h own i on post else False else False else post (PX.exit 0,JJ own,PX.normal,ZdY on h))=(lY [(37,hEr),(38,GB)] [] 17 9 2000000 N2 1 DE 1 (zu own i,(.normal,tf true false on h (0,0) 0))) post:=by kernel_rfl
theorem qi0 (own:List aj) (on:List az) (h:List Hd) (i:Int) (post:PX×S×PX×S->Prop):(bif oG i own then bif ji i own then bif ep own i then bif VD own i then post (PX.ret,JJ own,PX.exit 2,ZdV on h) else∃(l:List Hd) (x:az),ZdT h own i l x/\Zx/\Tf l/\ ∀(e:Int) (r:az) (ev:Bool),oe l x=(e,r,ev)->bif e==(0:Int) then bif jY ev then ZdX on own i post h else ZdW i post own on h else ZdW i post own on h else False else False else post (PX.exit 0,JJ own,PX.normal,ZdV on h))=(lY [(37,hEr),(38,GB)] [] 17 9 2000000 N2 1 DE 1 (zu own i,(.normal,tf true true on h (0,0) 0))) post:=by kernel_rfl
def qeC:yD:=fun y post=> ∃own on h,(own.length<=1000000/\on.length<=1000000/\h.length<=1000000/\(h.map (·.1)).Nodup)/\y=(zu own 0,(.normal,tf false false on h (0,0) 0))/\
 (∀z w s,cd h on own=some s->post (.ret,Vy own,(.ret,tf z w on h s 0)))/\(∀z w,cd h on own=none->post (.exit 0,Vy own,(.normal,tf z w on h (0,0) 0)))/\(∀z w,cd h on own=none->post (.ret,Vy own,(.exit 2,tf z w on h (0,0) 0)))
abbrev qhd (l own:List aj) (on:List az) (h:List Hd) (r:Int):S:=⟨69,[(0,bP l),(1,iD r),(4,.ref 0 0 0),(5,.ref 1 0 0),(6,.ref 2 0 0),(7,.ref 4 0 0),(8,.ref 6 0 0),(37,bP l),(38,iD r),(39,.fn DE [.ref 1039000 0 0])],UI false false on h (0,0) 0++[(1039000,⟨0,none,.box 22 [bP own]⟩)]⟩
def Ze0 (aM:List az) (w:Bool) (qB:List Hd) (z:Bool):List (Nat×En):=[zx,zw aM,(3,En.mk 0 none (Obj.arr (30:TypeId) w (eK aM))),UK qB,(5,En.mk 0 none (Obj.arr (30:TypeId) z (nV qB))),UJ qB,(7,En.mk 0 none (Obj.arr (30:TypeId) z (qh qB)))]
theorem qhe (l own:List aj) (on:List az) (h:List Hd) (r:Int) (post:PX×S->Prop):(∃(q4:List aj) (aM:List az) (qB:List Hd),(mx q4/\rN aM/\Tf qB)/\(ZbH own,PX.normal,S.mk 69 GN (ZdS on h))=(ZbH q4,PX.normal,S.mk 69 GN (ZdS aM qB))/\(∀(z w:Bool) (s:az),cd qB aM q4=some s->post (PX.ret,S.mk 69 GN (Hb s::Ze0 aM w qB z)))/\(∀(z w:Bool),cd qB aM q4=none->post (PX.normal,S.mk 69 GN (wK::Ze0 aM w qB z)))/\ ∀(z w:Bool),cd qB aM q4=none->post (PX.exit 2,S.mk 69 GN (wK::Ze0 aM w qB z)))=(wB [] [] (fun fi yt=>if Nat.beq fi DE&&Nat.beq yt 1 then [(1,dY (aL DE 1) qeC)] else []) 17 9 2000000 N2 (qhd l own on h r)) post:=by kernel_rfl
def qeD:S->K (PX×S):=fun s post=> ∃l own on h r,s=qhd l own on h r/\(own.length<=1000000/\on.length<=1000000/\h.length<=1000000/\(h.map (·.1)).Nodup)/\(∀z w s,cd h on own=some s->post (.ret,tf z w on h s 0))/\(∀z w,cd h on own=none->post (.normal,tf z w on h (0,0) 0))/\(∀z w,cd h on own=none->post (.exit 2,tf z w on h (0,0) 0))
def qeE:S->K (PX×S):=fun s post=> ∃l m r on,s=qaj l m r on [] 0/\m.length<=1000000/\ ∀h,h=m.map ll->post (.exit 0,qhb l r on h)
def Ze2 (mV:List aj) (cz:Int) (on:List az) (h:List Hd) (o:List aj):S:=S.mk 69 [gi mV,ZF cz,Al,Jp,JK,UM,UL,(37,cX mV),(38,P.d (Zt cz)),(39,P.fn (101:FuncId) [P.ref 1039000 0 0])] [wK,zx,zw on,Ly on,UK h,(5,TS h),UJ h,(7,TT h),(1039000,ZbK o)]
def Ze1 (l:List aj) (r:Int) (m:List aj) (o:List az):S:=S.mk 69 [gi l,ZF r,Al,Jp,JK,UM,UL,(20,P.sl 8 0 (fu m)),(21,BF m),(22,P.d Z7)] [wK,zx,zw o,Ly o,(4,En.mk 0 none (Obj.box (51:TypeId) [P.sl 5 0 0])),(5,vU),(6,En.mk 0 none (Obj.box (51:TypeId) [P.sl 7 0 0])),(7,vU),(8,r3 m)]
theorem qeF (l:List aj) (r:Int) (post:P×List (Nat×En)->Prop):(∃(ar:List aj),D7 l ar/\Zx/\nT ar/\ ∀(o:List az),o=M6 ar-> ∃(iF:List aj),D7 l iF/\Zx/\nT iF/\ ∀(m:List aj),m=aH iF-> ∃(mV:List aj) (bY:List aj) (cz:Int) (on:List az),Ze1 l r m o=Ze1 mV cz bY on/\mx bY/\ ∀(h:List Hd),h=List.map ll bY-> ∃(l:List aj) (r:Int),TN mV cz=TN l r/\Zx/\nT l/\ ∀(o:List aj),o=Ad (aH l) r-> ∃(l:List aj) (own:List aj) (aM:List az) (qB:List Hd) (r:Int),Ze2 mV cz on h o=Ze2 l r aM qB own/\(mx own/\rN aM/\Tf qB)/\(∀(_ _:Bool) (s:az),cd qB aM own=some s->ZbM post s)/\(∀(_ _:Bool),cd qB aM own=none->ZbN post)/\ ∀(_ _:Bool),cd qB aM own=none->ZbN post)=(rL [(30,vN),(36,Tp)] [(35,JI)] [(3,ae (aL 17 3) qeE),(500009,qeD)] 17 [bP l,iD r] []) post:=by kernel_rfl
section
variable {X:XF} {w0:World} (hX:dt PR w0 X.cf)
include hX
theorem qi1:LN w0 17 3 (ae (aL 17 3) qeE):=LN.idx hX (H:=[]) (HN:=[]) (hk:=[]) D0 (by kernel_rfl) (by kernel_rfl) (by kernel_rfl) .nil .nil .nil
 (A:=List aj×List aj×Int×List az) (B:=List Hd) (fun a h i=>qaj a.1 a.2.1 a.2.2.1 a.2.2.2 h i) (fun a=>a.2.1.length) (fun a i h=>a.2.1.length<=1000000/\h=(a.2.1.take i).map ll)
 (fun a x=>x=(.exit 0,qhb a.1 a.2.2.1 a.2.2.2 (a.2.1.map ll)))
 (by
  rintro⟨l,m,r,on⟩ h i post h0 bN bg ⟨hm,hh⟩ hn ho
  try dsimp only at*
  (rw[<-qhc];delta qh TT fN UJ nV TS UK eK oH Ly eu zw Z7 qu NU zx zo wK ZdS UL UM r6 JK iC Jp bT Al GN cP r3 Zg gQ Vh Zcg oE oS sW Zch Zn fu og BF Zt ZF cX gi Za Z9 Zj Zcf Zce ep fC tC vO Jj)
  have e1:D.nth (m.map aU) i.toNat=aU m[i.toNat]:=ay _ _ _ bg
  have hl:h.length<=1000000:=by rw[hh,zaa,zay];omega
  have lL:(m.take (i.toNat+1)).map ll=h++[ll m[i.toNat]]:=by rw[zag bg,zaB,hh];rfl
  rw[e1]
  generalize m[i.toNat]=g at*
  have p1:List.take h.length ((h.map fun x=>x.1).map bh)++[bh g.s]=((h++[ll g]).map fun x=>x.1).map bh:=by
   rw[zai (by simp),zaB,zaB]
   rfl
  have p2:List.take h.length ((h.map fun x=>x.2).map bh)++[bh g.b7]=((h++[ll g]).map fun x=>x.2).map bh:=by
   rw[zai (by simp),zaB,zaB]
   rfl
  have hy:=hn (h++[ll g]) ⟨hm,lL.symm⟩
  simp only[qaj,UI,lZ,List.cons_append,zbh] at hy
  rw[<-p1,<-p2,zan] at hy
  simp only[zaa]
  refine bJ bN (ak ⟨h0,bN⟩ (ak bg (ao (ft _) (ao ?_ (ao ?_ (ak (by omega) ?_))))))
  ·rw[zab]
   exact⟨by simp,cj hl (by omega)⟩
  ·rw[zab]
   exact⟨by simp,cj hl (by omega)⟩
  ·exact hy)
 (by
  rintro⟨l,m,r,on⟩ h i post hi ⟨hm,hh⟩ ho
  try dsimp only at*
  (rw[<-qhc];delta qh TT fN UJ nV TS UK eK oH Ly eu zw Z7 qu NU zx zo wK ZdS UL UM r6 JK iC Jp bT Al GN cP r3 Zg gQ Vh Zcg oE oS sW Zch Zn fu og BF Zt ZF cX gi Za Z9 Zj Zcf Zce ep fC tC vO Jj)
  refine lK (by omega) (ho _ (fun h=>by cases h) ?_)
  rw[hh,zak])
 (by
  rintro s post ⟨l,m,r,on,rfl,hm,hp⟩
  refine⟨(l,m,r,on),[],rfl,⟨hm,rfl⟩,?_⟩
  rintro x rfl
  exact hp _ rfl)
theorem qi2:LY w0 17 9 1 DE 1 (dY (aL DE 1) qeC):=LY.par hX (H:=[(37,hEr),(38,GB)]) (HN:=[]) (base:=2000000) (keep:=N2) D0 (.cons qiv (.cons qbf .nil)) .nil (by kernel_rfl) (by kernel_rfl) (by kernel_rfl)
 (A:=List aj×List az×List Hd) (B:=(Bool×Bool)×Int)
 (fun a b=>(zu a.1 b.2,(.normal,tf b.1.1 b.1.2 a.2.1 a.2.2 (0,0) 0)))
 (fun a b=>(a.1.length<=1000000/\a.2.1.length<=1000000/\a.2.2.length<=1000000/\(a.2.2.map (·.1)).Nodup)/\(b.1.2=true->b.1.1=true)/\0<=b.2/\b.2.toNat<=a.1.length/\cd a.2.2 a.2.1 a.1=cd a.2.2 a.2.1 (a.1.drop b.2.toNat))
 (fun a b=>((a.1.length:Int)-b.2).toNat)
 (fun a x=>(∃z w s,cd a.2.2 a.2.1 a.1=some s/\x=(.ret,Vy a.1,(.ret,tf z w a.2.1 a.2.2 s 0)))\/(∃z w,cd a.2.2 a.2.1 a.1=none/\x=(.exit 0,Vy a.1,(.normal,tf z w a.2.1 a.2.2 (0,0) 0)))\/(∃z w,cd a.2.2 a.2.1 a.1=none/\x=(.ret,Vy a.1,(.exit 2,tf z w a.2.1 a.2.2 (0,0) 0))))
 (by
  rintro⟨own,on,h⟩ ⟨⟨z,w⟩,i⟩ ⟨hm,hzw,h0,hi,hu⟩
  try dsimp only at*
  have key: ∀(bg:i.toNat<own.length),cd h on own=if own[i.toNat].b7=(0,0) then none else if F9 h own[i.toNat].s=true/\own[i.toNat].s∈on then some own[i.toNat].s else cd h on (own.drop (i+1).toNat):=fun bg=>by
   rw[hu,za2 bg,show(i+1).toNat=i.toNat+1 by omega]
   rfl
  have Ik: ¬i.toNat<own.length->cd h on own=none:=fun bg=>by
   rw[hu,List.drop_of_length_le (by omega)]
   rfl
  have tk:List.take on.length (on.map bh)=on.map bh:=zai (by simp)
  have tk1:List.take h.length ((h.map fun x=>x.1).map bh)=(h.map fun x=>x.1).map bh:=zai (by simp)
  have tk2:List.take h.length ((h.map fun x=>x.2).map bh)=(h.map fun x=>x.2).map bh:=zai (by simp)
  rcases z with _ |_<;>rcases w with _ |_
  ·(rw[<-qiY];delta qh fN UJ nV UK ZdU eK oH Ly eu zw Z7 qu NU zx zo wK UL UM r6 JK iC Jp bT Al GN ZdY cP cX VA Zn ZL fC Dl VB TL Za Z9 Zj YU ZdV ZdW Zg gQ oE oS Zbx JJ VC rN Zx kj km r1 oP uj sW RG TM ZdX jY qi Tf ZdT ZdZ TT TS ZdS VD ep ji oG)
   rw[zaa]
   refine cA (fun hp=> ?_) fun hp=> .inr (.inl ⟨false,false,Ik (by omega),rfl⟩)
   have bg:i.toNat<own.length:=by omega
   have e1:D.nth (own.map aU) i.toNat=aU own[i.toNat]:=ay _ _ _ bg
   have key:=key bg
   rw[e1,tk,tk1,tk2]
   generalize own[i.toNat]=g at*
   have u1:D.ah (D.aq (aU g) 4)=g.b7.1:=rfl
   have u2:D.ah (D.aq (aU g) 5)=g.b7.2:=rfl
   rw[u1,u2]
   refine ak ⟨h0,hp⟩ (ao (ft _) (ax (fun hb=> ?_) fun hb=>⟨h,g.s,rfl,rfl,⟨hm.2.2.1,hm.2.2.2⟩,fun e r ev hr=> ?_⟩))
   ·have hz:g.b7=(0,0):=by
     simp only[zbt,zab,zaS] at hb
     exact zdd hb.1 hb.2
    exact .inr (.inr ⟨false,false,by rw[key,zao hz],rfl⟩)
   ·have hz: ¬g.b7=(0,0):=fun hz=>by rw[hz] at hb;simp at hb
    have UN:F9 h g.s=(e==0&& !ev):=by unfold F9;rw[hr]
    rw[zam hz,UN] at key
    refine Bt (fun he=>ax (fun hv=>⟨on,g.s,rfl,rfl,hm.2.1,fun b cm=> ?_⟩) fun hv=>ak (by omega) ?_) fun he=>ak (by omega) ?_
    ·subst cm
     have ho:(e==0&& !ev)=true:=by rw[hv];simp[he]
     refine cA (fun lA=> .inl ⟨true,true,g.s,by rw[key,zao ⟨ho,lA⟩],rfl⟩) fun lA=>ak (by omega) ?_
     exact⟨((own.length:Int)-(i+1)).toNat,by omega,((true,true),i+1),by simp only[zu,zaa],⟨hm,fun _=>rfl,by show 0<=i+1;omega,by show(i+1).toNat<=_;omega,by show cd h on own=cd h on (own.drop (i+1).toNat);rw[key,zam (fun hh=>lA hh.2)]⟩,rfl⟩
    ·exact⟨((own.length:Int)-(i+1)).toNat,by omega,((true,false),i+1),by simp only[zu,zaa],⟨hm,fun _=>rfl,by show 0<=i+1;omega,by show(i+1).toNat<=_;omega,by show cd h on own=cd h on (own.drop (i+1).toNat);rw[key,zam (fun hh=>by rw[hv,zcJ] at hh;cases hh.1)]⟩,rfl⟩
    ·exact⟨((own.length:Int)-(i+1)).toNat,by omega,((true,false),i+1),by simp only[zu,zaa],⟨hm,fun _=>rfl,by show 0<=i+1;omega,by show(i+1).toNat<=_;omega,by show cd h on own=cd h on (own.drop (i+1).toNat);rw[key,zam (fun hh=>he (by have:=hh.1;rw[zab] at this;simpa using this.1))]⟩,rfl⟩
  ·exact absurd (hzw rfl) (by decide)
  ·(rw[<-qiZ];delta qh fN UJ nV UK ZdU eK oH Ly eu zw Z7 qu NU zx zo wK UL UM r6 JK iC Jp bT Al GN ZdY cP cX VA Zn ZL fC Dl VB TL Za Z9 Zj YU ZdV ZdW Zg gQ oE oS Zbx JJ VC rN Zx kj km r1 oP uj sW RG TM ZdX jY qi Tf ZdT ZdZ VD ep ji oG)
   rw[zaa]
   refine cA (fun hp=> ?_) fun hp=> .inr (.inl ⟨true,false,Ik (by omega),rfl⟩)
   have bg:i.toNat<own.length:=by omega
   have e1:D.nth (own.map aU) i.toNat=aU own[i.toNat]:=ay _ _ _ bg
   have key:=key bg
   rw[e1,tk,tk1,tk2]
   generalize own[i.toNat]=g at*
   have u1:D.ah (D.aq (aU g) 4)=g.b7.1:=rfl
   have u2:D.ah (D.aq (aU g) 5)=g.b7.2:=rfl
   rw[u1,u2]
   refine ak ⟨h0,hp⟩ (ao (ft _) (ax (fun hb=> ?_) fun hb=>⟨h,g.s,rfl,rfl,⟨hm.2.2.1,hm.2.2.2⟩,fun e r ev hr=> ?_⟩))
   ·have hz:g.b7=(0,0):=by
     simp only[zbt,zab,zaS] at hb
     exact zdd hb.1 hb.2
    exact .inr (.inr ⟨true,false,by rw[key,zao hz],rfl⟩)
   ·have hz: ¬g.b7=(0,0):=fun hz=>by rw[hz] at hb;simp at hb
    have UN:F9 h g.s=(e==0&& !ev):=by unfold F9;rw[hr]
    rw[zam hz,UN] at key
    refine Bt (fun he=>ax (fun hv=>⟨on,g.s,rfl,rfl,hm.2.1,fun b cm=> ?_⟩) fun hv=>ak (by omega) ?_) fun he=>ak (by omega) ?_
    ·subst cm
     have ho:(e==0&& !ev)=true:=by rw[hv];simp[he]
     refine cA (fun lA=> .inl ⟨true,true,g.s,by rw[key,zao ⟨ho,lA⟩],rfl⟩) fun lA=>ak (by omega) ?_
     exact⟨((own.length:Int)-(i+1)).toNat,by omega,((true,true),i+1),by simp only[zu,zaa],⟨hm,fun _=>rfl,by show 0<=i+1;omega,by show(i+1).toNat<=_;omega,by show cd h on own=cd h on (own.drop (i+1).toNat);rw[key,zam (fun hh=>lA hh.2)]⟩,rfl⟩
    ·exact⟨((own.length:Int)-(i+1)).toNat,by omega,((true,false),i+1),by simp only[zu,zaa],⟨hm,fun _=>rfl,by show 0<=i+1;omega,by show(i+1).toNat<=_;omega,by show cd h on own=cd h on (own.drop (i+1).toNat);rw[key,zam (fun hh=>by rw[hv,zcJ] at hh;cases hh.1)]⟩,rfl⟩
    ·exact⟨((own.length:Int)-(i+1)).toNat,by omega,((true,false),i+1),by simp only[zu,zaa],⟨hm,fun _=>rfl,by show 0<=i+1;omega,by show(i+1).toNat<=_;omega,by show cd h on own=cd h on (own.drop (i+1).toNat);rw[key,zam (fun hh=>he (by have:=hh.1;rw[zab] at this;simpa using this.1))]⟩,rfl⟩
  ·(rw[<-qi0];delta qh fN UJ nV UK ZdU eK YU eu zw Z7 qu NU zx zo wK UL UM r6 JK iC Jp bT Al GN ZdV cP cX VA Zn ZL fC Dl VB TL Za Z9 Zj ZdW Zg gQ oE oS Zbx JJ VC rN Zx kj km r1 oP uj sW RG TM ZdX jY qi Tf ZdT VD ep ji oG)
   rw[zaa]
   refine cA (fun hp=> ?_) fun hp=> .inr (.inl ⟨true,true,Ik (by omega),rfl⟩)
   have bg:i.toNat<own.length:=by omega
   have e1:D.nth (own.map aU) i.toNat=aU own[i.toNat]:=ay _ _ _ bg
   have key:=key bg
   rw[e1,tk,tk1,tk2]
   generalize own[i.toNat]=g at*
   have u1:D.ah (D.aq (aU g) 4)=g.b7.1:=rfl
   have u2:D.ah (D.aq (aU g) 5)=g.b7.2:=rfl
   rw[u1,u2]
   refine ak ⟨h0,hp⟩ (ao (ft _) (ax (fun hb=> ?_) fun hb=>⟨h,g.s,rfl,rfl,⟨hm.2.2.1,hm.2.2.2⟩,fun e r ev hr=> ?_⟩))
   ·have hz:g.b7=(0,0):=by
     simp only[zbt,zab,zaS] at hb
     exact zdd hb.1 hb.2
    exact .inr (.inr ⟨true,true,by rw[key,zao hz],rfl⟩)
   ·have hz: ¬g.b7=(0,0):=fun hz=>by rw[hz] at hb;simp at hb
    have UN:F9 h g.s=(e==0&& !ev):=by unfold F9;rw[hr]
    rw[zam hz,UN] at key
    refine Bt (fun he=>ax (fun hv=>⟨on,g.s,rfl,rfl,hm.2.1,fun b cm=> ?_⟩) fun hv=>ak (by omega) ?_) fun he=>ak (by omega) ?_
    ·subst cm
     have ho:(e==0&& !ev)=true:=by rw[hv];simp[he]
     refine cA (fun lA=> .inl ⟨true,true,g.s,by rw[key,zao ⟨ho,lA⟩],rfl⟩) fun lA=>ak (by omega) ?_
     exact⟨((own.length:Int)-(i+1)).toNat,by omega,((true,true),i+1),by simp only[zu,zaa],⟨hm,fun _=>rfl,by show 0<=i+1;omega,by show(i+1).toNat<=_;omega,by show cd h on own=cd h on (own.drop (i+1).toNat);rw[key,zam (fun hh=>lA hh.2)]⟩,rfl⟩
    ·exact⟨((own.length:Int)-(i+1)).toNat,by omega,((true,true),i+1),by simp only[zu,zaa],⟨hm,fun _=>rfl,by show 0<=i+1;omega,by show(i+1).toNat<=_;omega,by show cd h on own=cd h on (own.drop (i+1).toNat);rw[key,zam (fun hh=>by rw[hv,zcJ] at hh;cases hh.1)]⟩,rfl⟩
    ·exact⟨((own.length:Int)-(i+1)).toNat,by omega,((true,true),i+1),by simp only[zu,zaa],⟨hm,fun _=>rfl,by show 0<=i+1;omega,by show(i+1).toNat<=_;omega,by show cd h on own=cd h on (own.drop (i+1).toNat);rw[key,zam (fun hh=>he (by have:=hh.1;rw[zab] at this;simpa using this.1))]⟩,rfl⟩)
 (by
  rintro y post ⟨own,on,h,h1,rfl,h2,h3,h4⟩
  refine⟨(own,on,h),((false,false),0),rfl,⟨h1,by decide,zby _,by simp,rfl⟩,?_⟩
  rintro x (⟨z,w,s,h,rfl⟩| ⟨z,w,h,rfl⟩| ⟨z,w,h,rfl⟩)
  ·exact h2 z w s h
  ·exact h3 z w h
  ·exact h4 z w h)
theorem qi3:FN w0 17 9 qeD:=FN.mk hX (H:=[]) (HN:=[]) D0 .nil .nil (base:=2000000) (keep:=N2) (by kernel_rfl) (hk:=fun fi yt=>if Nat.beq fi DE&&Nat.beq yt 1 then [(1,dY (aL DE 1) qeC)] else [])
 (by
  intro fi yt h zn hl
  split at hl
  ·rename_i hb
   rw[zab] at hb
   have e1:=zaf hb.1
   have e2:=zaf hb.2
   subst e1 e2
   unfold lk at hl
   split at hl
   ·rename_i he
    have e3:=zaf he
    subst e3
    cases hl
    exact⟨by kernel_rfl,qi2 hX⟩
   ·cases hl
  ·cases hl)
 (by
  rintro s post ⟨l,own,on,h,r,rfl,hm,h1,h2,h3⟩
  (rw[<-qhe];delta Z7 qu zo wK qh fN UJ nV UK eK eu zw NU zx Ze0 kj km Ah Hb TT TS oH Ly ZdS UL UM r6 JK iC Jp bT Al GN cP cX VA rB fC Dl VB ZbH qi Tf rN fu mx)
  exact⟨own,on,h,hm,rfl,h1,h2,h3⟩)
def BS:bq:=fun ps R post=> ∃l r,ps=[bP l,iD r]/\R=[]/\nT l/\ ∀a,a=Bs l r->post (stO a,[])
theorem qeG (hV:ND w0 35 JI):ND w0 17 BS:=ND.mk hX (H:=[(30,vN),(36,Tp)]) (HN:=[(35,JI)]) (hk:=[(3,ae (aL 17 3) qeE),(500009,qeD)]) D0 (by kernel_rfl) (by kernel_rfl) (.cons K1 (.cons qa6 .nil)) (.cons hV .nil) (.loop (by decide) (qi1 hX).T (.range (qi3 hX) .nil)) (by
 intro ps R post hh
 obtain⟨l,r,rfl,rfl,hs,hp⟩:=hh
 (rw[<-qeF];delta Z7 ZbN qu kj km r1 ZbM fN qi Tf eu rN cP cX ZbK qh TT UJ nV TS UK eK oH Ly zw NU zx zo wK Zt UL UM r6 JK iC Jp bT Al ZF gi Ze2 Zv TN fu mx r3 vU og BF Ze1 Zx D7)
 have hl:=hs.1
 have h1:=wN l
 have h2:=dI l
 have h3:(Ad (aH l) r).length<=(aH l).length:=by rw[(uo _ _).length_eq];exact za4 _ _
 have ky:=Dg l
 refine⟨l,rfl,rfl,hs,fun o ho=>⟨l,rfl,rfl,hs,fun m hm=>⟨l,m,r,o,rfl,by rw[hm];omega,fun h hh=>⟨l,r,rfl,rfl,hs,fun ow how=>⟨l,ow,o,h,r,rfl,⟨by rw[how];omega,by rw[ho];omega,by rw[hh,zaa,hm];omega,by rw[hh,hm];exact ky⟩,fun _ _ s hr=> ?_,fun _ _ hr=> ?_,fun _ _ hr=> ?_⟩⟩⟩⟩⟩
 ·have e:h=rH l:=by rw[hh,hm];rfl
  exact hp (s,0) (by unfold Bs;rw[<-ho,<-how,<-e,hr];rfl)
 ·have e:h=rH l:=by rw[hh,hm];rfl
  exact hp ((0,0),200) (by unfold Bs;rw[<-ho,<-how,<-e,hr];rfl)
 ·have e:h=rH l:=by rw[hh,hm];rfl
  exact hp ((0,0),200) (by unfold Bs;rw[<-ho,<-how,<-e,hr];rfl))
end
end Pi
namespace Pi
open Go Go.Proofs Go.RowKit Go.Proofs.YtngoddkencoalaaGreatDoor
set_option maxRecDepth 100000
abbrev q6:List (String×DataW Unit):=[("unicode/utf8.acceptRanges",Rows.laid_unicode_utf8_acceptRanges),("unicode/utf8.first",Rows.laid_unicode_utf8_first)]
theorem GO (w:World) (h:laidMetH Tryz.prog q6 w):laidMet Tryz.prog q6 w:=by
 unfold laidMetH at h
 have e:(q6.filter fun x=>x.2.handleName?.isSome)=[]:=by kernel_rfl
 rw[e] at h
 exact h
theorem qak (w:World) (h:laidMet Tryz.prog q6 w):laidMetH Tryz.prog q6 w:=by
 unfold laidMetH
 have e:(q6.filter fun x=>x.2.handleName?.isSome)=[]:=by kernel_rfl
 rw[e]
 exact h
theorem qhf:(Rows.laid_unicode_utf8_first:DataW Unit)=Lib.firstData:=by kernel_rfl
theorem qhg:(Rows.laid_unicode_utf8_acceptRanges:DataW Unit)=Lib.acceptData:=by kernel_rfl
def qi4:Go.Shelf.Ren:=⟨fun n=>n,fun |5=>5 |119=>242 |138=>244 |139=>245 |n=>n,fun |3=>0 |4=>1 |n=>n⟩
theorem qhh {W:World} (h:laidMet Tryz.prog q6 W):Lib.Utf8Tabs 0 1 W:=
 utf8Tabs_of_readsT (ρ:=qi4) ⟨by kernel_rfl,by kernel_rfl,by kernel_rfl,by kernel_rfl⟩ ⟨by kernel_rfl,by kernel_rfl,by kernel_rfl,by kernel_rfl,by kernel_rfl,by kernel_rfl,by kernel_rfl⟩
  (by rw[<-qhf];exact Lib.laidMet.reads h (.tail _ (.head _)))
  (by rw[<-qhg];exact Lib.laidMet.reads h (.head _))
theorem qeH {W:World} (h0:laidMetH Tryz.prog q6 W) (hs:W.ShapedOpen Tryz.prog):StW W:=by
 have h:=GO W h0
 refine⟨?_,qhh h⟩
 exact cell_of_shapedOpen_int (zero:= #[.int .i64 0]) (t:=3) hs (zbI (by kernel_rfl)) (by kernel_rfl) rfl (by kernel_rfl) (by kernel_rfl) Tryz.underlying3
noncomputable def wL (os:Os):World:=World.laidAll Tryz.prog os q6
theorem qeI (os:Os) (args:Array Value):laidMet Tryz.prog q6 ((wL os).forCall (fun _ _=>0) ⟨#[],args,[]⟩).memory:=
 laidMet_laidAll _ (by kernel_rfl) (by kernel_rfl)
open Classical in
noncomputable def ti:TF:=fun ps R=>if h: ∃a:List aj×Int,ps=[bP a.1,iD a.2]/\R=[]/\nT a.1 then some (stO (Ga h.choose.1 h.choose.2),[]) else none
open Classical in
noncomputable def tj:TF:=fun ps R=>if h: ∃a:List aj×Int,ps=[bP a.1,iD a.2]/\R=[]/\nT a.1 then some (stO (Bs h.choose.1 h.choose.2),[]) else none
theorem JU {ps:List P} {R:List (Nat×En)} {y:P×List (Nat×En)} (h:ti ps R=some y):BL ps R (fun z=>z=y):=by
 unfold ti at h
 split at h
 ·rename_i e
  obtain⟨h1,h2,h3⟩:=e.choose_spec
  exact⟨e.choose.1,e.choose.2,h1,h2,h3,fun a ha=>by rw[ha];exact zb1 h⟩
 ·cases h
theorem JV {ps:List P} {R:List (Nat×En)} {y:P×List (Nat×En)} (h:tj ps R=some y):BS ps R (fun z=>z=y):=by
 unfold tj at h
 split at h
 ·rename_i e
  obtain⟨h1,h2,h3⟩:=e.choose_spec
  exact⟨e.choose.1,e.choose.2,h1,h2,h3,fun a ha=>by rw[ha];exact zb1 h⟩
 ·cases h
theorem LH {l m:List aj} {r s:Int} (h:[bP l,iD r]=[bP m,iD s]):l=m/\r=s:=by
 have c:l.map aU=m.map aU/\r=s:=by simpa using h
 exact⟨yS qa5 c.1,c.2⟩
theorem JW {ps:List P} {R:List (Nat×En)} {post:P×List (Nat×En)->Prop} (h:BL ps R post): ∃x,ti ps R=some x/\post x:=by
 obtain⟨l,r,h1,h2,h3,hp⟩:=h
 have e: ∃a:List aj×Int,ps=[bP a.1,iD a.2]/\R=[]/\nT a.1:=⟨(l,r),h1,h2,h3⟩
 obtain⟨c1,_,_⟩:=e.choose_spec
 obtain⟨e1,e2⟩:=LH (h1.symm.trans c1)
 refine⟨_,?_,hp _ rfl⟩
 unfold ti
 rw[dif_pos e,<-e1,<-e2]
theorem JX {ps:List P} {R:List (Nat×En)} {post:P×List (Nat×En)->Prop} (h:BS ps R post): ∃x,tj ps R=some x/\post x:=by
 obtain⟨l,r,h1,h2,h3,hp⟩:=h
 have e: ∃a:List aj×Int,ps=[bP a.1,iD a.2]/\R=[]/\nT a.1:=⟨(l,r),h1,h2,h3⟩
 obtain⟨c1,_,_⟩:=e.choose_spec
 obtain⟨e1,e2⟩:=LH (h1.symm.trans c1)
 refine⟨_,?_,hp _ rfl⟩
 unfold tj
 rw[dif_pos e,<-e1,<-e2]
structure XT (X:XF):Prop where
 b7: ∀ps R,X.cf 19 ps R=ti ps R
 qi5: ∀ps R,X.cf 17 ps R=tj ps R
theorem qal {X:XF} (hX:XT X):FD X 19 BL:=Oa.sJ Tryz.func19 (by kernel_rfl) fun ps R post h=>by
 obtain⟨x,h1,h2⟩:=JW h
 exact⟨x,by rw[<-h1];exact hX.b7 ps R,h2⟩
theorem qam {X:XF} (hX:XT X):FD X 17 BS:=Oa.sJ Tryz.func17 (by kernel_rfl) fun ps R post h=>by
 obtain⟨x,h1,h2⟩:=JX h
 exact⟨x,by rw[<-h1];exact hX.qi5 ps R,h2⟩
noncomputable def LI:XF:=⟨xOf ((19,ti)::(17,tj)::xL),fun f hf ps R=>by
 show(if Nat.beq 19 f then ti ps R else if Nat.beq 17 f then tj ps R else xB f ps R)=_
 split
 ·rename_i he
  have:=zaf he
  subst this
  have h0:gR 19 xsB=false:=by kernel_rfl
  rw[h0] at hf
  cases hf
 ·split
  ·rename_i he
   have:=zaf he
   subst this
   have h0:gR 17 xsB=false:=by kernel_rfl
   rw[h0] at hf
   cases hf
  ·rfl⟩
theorem qan:XT LI:=⟨fun _ _=>rfl,fun _ _=>rfl⟩
theorem UO {w1:World} (hw1:StW w1):dt Tryz.prog {w1 with drawn:=0} LI.cf:=by
 have h0:=qfk hw1
 have hU:MA Tryz.prog {w1 with drawn:=0} 19 ti:=MA.ofN (qd6 (X:=KD) h0 (qbh (X:=KD) h0)) fun ps R y h=>JU h
 have hR:MA Tryz.prog {w1 with drawn:=0} 17 tj:=MA.ofN (qeG (X:=KD) h0 (qbh (X:=KD) h0)) fun ps R y h=>JV h
 intro f ps R p R1 h'
 have h':(if Nat.beq 19 f then ti ps R else if Nat.beq 17 f then tj ps R else xB f ps R)=some (p,R1):=h'
 split at h'
 ·rename_i hf
  have hf:=zaf hf
  subst hf
  exact hU rfl ps R p R1 h'
 ·split at h'
  ·rename_i hf
   have hf:=zaf hf
   subst hf
   exact hR rfl ps R p R1 h'
  ·exact h0 f ps R p R1 h'
end Pi
namespace Pi
open Go Go.Proofs
set_option maxRecDepth 100000
set_option maxHeartbeats 0
theorem tq {a b:Int} (h:0<=a) (hb:0<b):0<=a.tmod b/\a.tmod b<b:=⟨Int.tmod_nonneg b h,Int.tmod_lt_of_pos a hb⟩
theorem bQ.smS {i:Int} {l:List aj} (h:bQ i l) (hi:i<=1000):SmS l:=by
 have h1:=h.len
 have h2:=h.df
 refine⟨⟨by omega,fun g hg=>⟨fun o ho=> ?_,?_,?_⟩⟩,?_⟩
 ·have h3:=(h.sm g hg).2.2.2 o ho
  have h4:=sZ (h.JL g hg) o ho
  exact⟨by omega,by omega,by omega⟩
 ·have h3:=(h.sm g hg).2.2.1
  omega
 ·have:=nY (DI (h.JL g hg)).2.2.1
  omega
 ·show Pi.df l<=1000
  omega
theorem qhi {q:Int} (h:q=0\/q=1\/q=2):((0<=IntKind.wrap IntKind.u8 (q+1)/\IntKind.wrap IntKind.u8 (q+1)<=((3:Nat):Int))/\(0<=q/\q<=((IntKind.wrap IntKind.u8 (q+1)).toNat:Int)))/\dH (List.drop q.toNat (List.take (IntKind.wrap IntKind.u8 (q+1)).toNat [97,98,99]))=true:=by
 rcases h with rfl |rfl |rfl<;>exact⟨by decide,by kernel_rfl⟩
theorem qhj {k d:Int} (hk:0<=k/\k<5) (hd:0<=d/\d<2):mO (List.drop k.toNat (List.take (k+1+d).toNat [117,118,119,120,121,122]))=true/\(List.drop k.toNat (List.take (k+1+d).toNat ([117,118,119,120,121,122]:List UInt8))).length<=2:=by
 obtain hk:k=0\/k=1\/k=2\/k=3\/k=4:=by omega
 obtain hd:d=0\/d=1:=by omega
 rcases hk with rfl |rfl |rfl |rfl |rfl<;>rcases hd with rfl |rfl<;>exact⟨by kernel_rfl,by decide⟩
theorem qao {i:Int} {l:List aj} (h:bQ i l) (hi:i<=1000) (x:au):mn (fy l x):=by
 have h1:=h.len
 have h2:=h.df
 have h3:=ql x l
 have hr: ∀r∈fy l x,r.2.2.length<=2/\r.2.1.2.2=0:=fun r hr=>by
  obtain⟨g,hg,o,ho,hk,rfl⟩:=GI hr
  obtain⟨m,hm⟩:=op1 h hg ho
  have:=LA hm hk
  exact⟨((h.sm g hg).2.2.2 o ho).1,by rw[this]⟩
 have key: ∀L:List bM,(∀r∈L,r.2.2.length<=2)->Hq L<=2*L.length:=fun L=>by
  induction L with
  |nil=>intro _;simp[Hq]
  |cons r L ih=>
   intro hL
   have h4:=ih fun r hr=>hL r (.tail _ hr)
   have h5:=hL r (.head _)
   have h6:=y8 r.2.2
   have h7:Hq (r::L)=(pV r.2.2).length+Hq L:=by simp[Hq]
   rw[h7,zap]
   omega
 refine⟨by omega,?_,fun r h=> ?_⟩
 ·have:=key _ fun r h=>(hr r h).1
  omega
 ·have:=hr r h
  rw[this.2]
  exact⟨by omega,by omega,by omega⟩
theorem jS {α:Type} (f:α->D) (o:List α):List.take o.length (o.map f)=o.map f:=zai (by simp)
theorem qeJ {l:List aj} {e:List au} (he: ∀y∈e,ie l y) (hs:e.Pairwise fun a b=>mh a b=true) {q d:Int} (hq:0<=q/\q<(e.length:Int)) (hd:0<=d/\d<3):
  (∀y∈(e.drop q.toNat).take ((min (e.length:Int) (q+1+d)).toNat-q.toNat),ie l y)/\((e.drop q.toNat).take ((min (e.length:Int) (q+1+d)).toNat-q.toNat)).Pairwise (fun a b=>mh a b=true)/\
   1<=((e.drop q.toNat).take ((min (e.length:Int) (q+1+d)).toNat-q.toNat)).length/\((e.drop q.toNat).take ((min (e.length:Int) (q+1+d)).toNat-q.toNat)).length<=3:=by
 refine⟨fun y hy=>he y (zbU (zbp hy)),hs.sublist ((zcV _ _).trans (List.drop_sublist _ _)),?_,?_⟩
 ·rw[zay,zbc]
  omega
 ·rw[zay]
  omega
section
variable {X:XF}
theorem qeK:FD X 77 UF:=FD.mk (H:=[]) (hk:=[]) (by kernel_rfl) .nil .nil (by
 intro ps R post hh
 obtain⟨l,n,rfl,rfl,⟨hl,hn⟩,hp⟩:=hh
 (rw[<-qew];delta gq Zdf Z7 Za Z9 Zj pL vf Zde)
 refine ak (by omega) fun c hc=> ?_
 have hm:(l.map bB).length=l.length:=zaa ..
 rw[hm] at hc⊢
 have hq:=tq hn.1 (show 0<c+1 by omega)
 refine ak (by omega) (ao (by rw[zaL (by omega)];rfl) (Bt (fun _=>hp aA (.inl rfl)) fun h=>ak (by omega) ?_))
 generalize n.tmod (c+1)=q at*
 have bG:q.toNat<l.length:=by omega
 rw[ay _ _ _ bG]
 exact ao (lF _) (hp _ (.inr (zas bG))))
theorem qhk:FD X 50 qex:=FD.mk (H:=[(76,qes),(77,UF),(78,hJn),(32,TR),(79,qek),(80,qeq)]) (hk:=[]) (by kernel_rfl)
  (.cons qg3 (.cons qeK (.cons qiU (.cons qef (.cons qg6 (.cons qg8 .nil)))))) .nil (by
 intro ps R post hh
 obtain⟨i,l,v,r,x,rfl,rfl,⟨hl,hi,hx⟩,hp⟩:=hh
 (rw[<-qiW];delta ZO Og gq Oh Z3 zd Z7 gP gO h9 gB gC ia vX Zdc Za Z9 Zd7 Va Z2N Vc Z2P Zdb Z2y fu mx Zx uf iV cP cX Zdd Zd6 kj km Zd8 Zd9 Zd3 pS Zd2 lJ Zd0 TO Zda eK eu TM WV BB An D7 ZR ZcZ Zd5 UG Zd1 Zcv gh)
 have hL:=hl.known v
 have hlen:=hL.len
 have Aq:=hL.df
 have hq:=tq hx.b.1 (show(0:Int)<3 by decide)
 have E5:=qhi (q:=x.b.tmod 3) (by omega)
 have hk:=tq hx.c.1 (show(0:Int)<5 by decide)
 have hd:=tq hx.c.1 (show(0:Int)<2 by decide)
 have hd3:=tq hx.c.1 (show(0:Int)<3 by decide)
 have huv:=qhj hk hd
 have hc:=hx.c
 have hb:=hx.b
 have h0:(aS l v).length<=1000000/\df (aS l v)<=1000:=by omega
 refine⟨_,true,rfl,rfl,h0,fun ds hds=>⟨_,false,rfl,rfl,h0,fun fs hfs=>ak E5.1.1 (ak E5.1.2 ?_)⟩⟩
 have hrd: ∀y,(y=aA\/y∈ds)->(y=aA\/ie (aS l v) y):=fun y h=>h.imp_right fun h=>LF hL (hds▸h)
 have hrf: ∀y,(y=aA\/y∈fs)->(y=aA\/ie (aS l v) y):=fun y h=>h.imp_right fun h=>LF hL (hfs▸h)
 have hra: ∀y,(y=aA\/y∈fs++ds)->(y=aA\/ie (aS l v) y):=fun y h=>h.elim .inl fun h=>(zaG.1 h).elim (fun h=>hrf y (.inr h)) fun h=>hrd y (.inr h)
 have hdl:ds.length<=1000000:=by rw[hds];have:=mW true (aS l v);omega
 have vu:fs.length<=1000000:=by rw[hfs];have:=mW false (aS l v);omega
 have Kq:(fs++ds).length<=1000000:=by
  have:=mW true (aS l v)
  have:=mW false (aS l v)
  rw[zan,hfs,hds]
  omega
 have hdp: ∀(Q:au->Prop),(∀y,(y=aA\/ie (aS l v) y)->Q y)-> ∃(m:List au) (n:Int),[P.d (D.sl 3 (List.take ds.length (ds.map bB))),P.d (D.int .u8 x.a)]=[P.d (D.sl 3 (m.map bB)),P.d (D.int .u8 n)]/\EqR [] []/\(m.length<=1000000/\0<=n/\n<=255)/\ ∀y,(y=aA\/y∈m)->Q y:=
  fun Q h=>⟨ds,x.a,by rw[jS],rfl,⟨hdl,hx.a⟩,fun y hy=>h y (hrd y hy)⟩
 have qap: ∀y:au,(y.1==(0:Int)&&(y.2.1==(0:Int)&&true)&&(y.2.2==(0:Int)&&true))=(y==aA):=fun y=>s7 y aA
 have dG: ∀y:au,(y=aA\/ie (aS l v) y)->(!(y==aA))=true->ie (aS l v) y:=fun y h h1=>h.resolve_left fun e=>by rw[e] at h1;simp at h1
 refine⟨fs,x.a,by rw[jS],rfl,⟨vu,hx.a⟩,fun f hf=> ?_⟩
 have hf:=hrf f hf
 refine Bt (fun _=>hdp _ fun y hy=>hp (GD (fP l v r) y _ true) true fun _=>⟨⟨_,LB hl hy E5.2 true⟩,by simp[GD],by simp[GD]⟩) fun _=>
  Bt (fun _=>hdp _ fun y hy=>hp (GD (fP l v r) y _ false) true fun _=>⟨⟨_,LB hl hy E5.2 false⟩,by simp[GD],by simp[GD]⟩) fun _=>
  Bt (fun _=>⟨fs,ds,by rw[jS,jS],rfl,⟨vu,hdl⟩,fun a ha=>⟨a,x.c,by rw[jS],rfl,⟨by rw[ha];exact Kq,hx.c⟩,fun y hy=>hdp _ fun z hz=> ?_⟩⟩) fun _=>
  Bt (fun _=>⟨fs,ds,by rw[jS,jS],rfl,⟨vu,hdl⟩,fun a ha=>⟨a,x.c,by rw[jS],rfl,⟨by rw[ha];exact Kq,hx.c⟩,fun y hy=>⟨aS l v,rfl,rfl,hL.smS (by omega),fun on t p it Hj ht _ _=>⟨t.h,t.g,y,rfl,rfl,?_,fun d ll=> ?_⟩⟩⟩⟩) fun _=> ?_
 ·have hy:=hra y (by rw[<-ha];exact hy)
  rw[qap]
  exact hp (Ub y z _) (!(y==aA)) fun h=>⟨⟨_,Y3 hl (dG y hy h) hz E5.2⟩,by simp[Ub],by simp[Ub]⟩
 ·have hR:=hL.right
  have hB:=Bz (on:=on) (l:=aS l v) hL.JL _ (zaj _)
  rw[zak] at hB
  rw[ht,hR]
  have h1:=hB.2.2.1
  have h2:=hB.2.2.2
  exact⟨by omega,by omega⟩
 ·have hy:=hra y (by rw[<-ha];exact hy)
  have hd4:=Z5 hL (by omega) (on:=on) (g:=t.g) (x:=y)
  rw[qap,jS]
  rw[hL.right] at ht
  rw[<-ht,<-ll] at hd4
  exact hp (Uc y d) (!(y==aA)) fun h=>⟨⟨_,Y4 hl (dG y hy h) hd4.1 hd4.2.1 hd4.2.2⟩,by simp[Uc],by simp[Uc]⟩
 have hes:(aS l v).length<=1000000/\df (aS l v)<=1000/\mn (fy (aS l v) f):=⟨h0.1,h0.2,qao hL (by omega) f⟩
 have N5:(JO (aS l v) f).length<=1000000:=by
  have:=wP (l:=fy (aS l v) f) _ (zaj _)
  rw[zak] at this
  have:=hes.2.2.2.1
  unfold JO
  rw[mR,zaa]
  omega
 refine Bt (fun h4=>Bt (fun _=> ?_) fun h=>absurd h4 h) fun _=>Bt (fun _=> ?_) fun _=> ?_
 rotate_left 2
 ·refine⟨_,f,rfl,rfl,hes,fun e he=> ?_⟩
  rw[qap]
  have bZ:post (P.cV [P.d (eH ⟨0,aA,aA,[],false,[],aA,aA,[],[]⟩),P.d (D.bool false)],[]):=hp _ false fun h=>by cases h
  refine ax (fun _=>bZ) fun hf2=>Bt (fun _=>bZ) fun Kf=> ?_
  have hfr:ie (aS l v) f:=dG f hf (by rw[hf2];rfl)
  have hq2:=tq hx.b.1 (show(0:Int)<(e.length:Int) by omega)
  have qjh:e.length<=1000000:=by rw[he];exact N5
  have hct:=qeJ (e:=e) (fun y hy=>GJ hL (he▸hy)) (by rw[he];exact NW _ _) hq2 hd3
  generalize x.b.tmod (e.length:Int)=q at*
  generalize x.c.tmod 3=d at*
  refine ak (by omega) (ao (by rw[zaL (by omega)];rfl) (ak (by omega) (ak (by omega) (ak (by omega) (ak (by omega) (ak (by omega) ?_))))))
  rw[<-List.map_drop,<-List.map_take]
  exact hp (Y2 f _) true fun _=>⟨⟨_,Y6 hl hfr hct.1 hct.2.1 hct.2.2.1 hct.2.2.2⟩,by simp[Y2],hct.2.2.2⟩
 all_goals
  refine ak (by omega) ⟨_,f,rfl,rfl,hes,fun e he=>⟨e,x.b,by rw[jS],rfl,⟨by rw[he];exact N5,hx.b⟩,fun a ha=> ?_⟩⟩
  rw[qap]
  have ha:a=aA\/ie (aS l v) a:=ha.imp_right fun h=>GJ hL (he▸h)
  generalize x.c.tmod 5=k at*
  generalize x.c.tmod 2=d at*
  refine ak (by omega) (ak (by omega) (ak (by omega) (ak (by omega) (ak (by omega) ?_))))
  exact hp (Y1 (fP l v r) f a _) (!(f==aA)) fun h=>⟨⟨_,Y5 hl (dG f hf h) ha huv.1⟩,huv.2,by simp[Y1]⟩)
theorem jA.all {i:Int} {l:List aj} {K:List (List Int)} (h:oi i l K) {r:Int} (h1:1<=r) (h2:r<=3): ∀(M:List (List Int)) (v:List Int),jA i K r v->(∀w∈M,w∈K)->jA i K r (mgA v M)
 | [],_,hv,_=>hv
 |w::M,v,hv,hM=>jA.all h h1 h2 M (mg v w) (jA.merge h h1 h2 hv (hM w (.head _))) fun x hx=>hM x (.tail _ hx)
theorem UP: ∀(M:List (List Int)) (v:List Int),db v=true->(∀w∈M,db w=true)->db (mgA v M)=true
 | [],_,hv,_=>hv
 |w::M,v,hv,hM=>UP M (mg v w) (BN hv (hM w (.head _))) fun x hx=>hM x (.tail _ hx)
theorem qaq (v:List Int):cC PR 31 (D.sl 1 (aZ v))=true:=by kernel_rfl
theorem qar:LD X 29 5 (ae (aL 29 5) qez):=LD.idx (H:=[(47,Iw)]) (hk:=[]) (by kernel_rfl) (by kernel_rfl) (.cons QB .nil) .nil
 (A:=List aj×List (List Int)×cB×Int×List Int) (B:=List Int) (fun a v i=>dn5 a.1 a.2.1 a.2.2.1 a.2.2.2.1 v i) (fun a=>a.2.1.length)
 (fun a i v=>JT a.2.2.2.2 a.2.1/\v=mgA a.2.2.2.2 (a.2.1.take i))
 (fun a z=>z=(.exit 0,⟨120,[(2,.ref 0 0 0),(3,.ref 1 0 0),(4,.ref 2 0 0),(5,iD a.2.2.2.1),(6,vD (mgA a.2.2.2.2 a.2.1))],[(0,⟨0,none,bxW a.1 a.2.1⟩),(1,⟨0,none,qey a.2.2.1⟩),(2,⟨0,none,.box 62 [.sl 3 0 0,.sl 4 0 0]⟩),(3,⟨0,none,oR false []⟩),(4,⟨0,none,arV false []⟩)]⟩))
 (by
  rintro⟨l,K,x,r,v0⟩ v i post h0 bN bg ⟨hc,hv⟩ hn br
  try dsimp only at*
  (rw[<-qbp];delta Ot Ed cP cX OC Zdi Zn ZL Zt D6 r6 iC r4 bT I9 Za Z9 Zj Zx Zk ZW Zg)
  have e1:D.nth (K.map fun v=>D.sl 1 (aZ v)) i.toNat=D.sl 1 (aZ K[i.toNat]):=ay _ _ _ bg
  have fB:0<=i/\i<((K.map fun v=>D.sl 1 (aZ v)).length:Int):=by rw[zaa];exact⟨h0,bN⟩
  have hvo:db v=true:=by rw[hv];exact UP _ _ hc.2.1 fun w hw=>hc.2.2 w (zbp hw)
  have hwo:=hc.2.2 _ (zas bg)
  have lL:mgA v0 (K.take (i.toNat+1))=mg v K[i.toNat]:=by
   rw[hv]
   unfold mgA
   rw[zag bg,za1]
   rfl
  have hl1:=nY hvo
  have GW:=nY hwo
  have hK:=hc.1
  rw[e1]
  generalize K[i.toNat]=w at*
  refine bJ fB.2 (ak fB (ao (qaq _) ⟨v,w,rfl,rfl,⟨?_,?_⟩,ak (by omega) (hn _ ⟨hc,lL.symm⟩)⟩))
  ·unfold iP;omega
  ·unfold iP;omega)
 (by
  rintro⟨l,K,x,r,v0⟩ v i post hi ⟨hc,hv⟩ br
  try dsimp only at*
  (rw[<-qbp];delta Ot Ed cP cX OC Zdi Zn ZL Zt D6 r6 iC r4 bT I9 Za Z9 Zj Zx Zk ZW Zg)
  refine lK (by rw[zaa];omega) (br _ (fun h=>by cases h) ?_)
  rw[hv,zak]
  rfl)
 (by
  rintro s post ⟨l,K,x,r,v,rfl,hc,hp⟩
  refine⟨(l,K,x,r,v),v,rfl,⟨hc,rfl⟩,?_⟩
  rintro z rfl
  exact hp _ rfl)
theorem qeL:FD X 29 LG:=FD.mk (H:=[(48,hKn),(13,Iu),(46,JC),(49,Ux),(50,qex)]) (hk:=[(5,ae (aL 29 5) qez)]) (by kernel_rfl)
  (.cons qiT (.cons yc (.cons Yw (.cons qeu (.cons qhk .nil))))) (.cons qar .nil) (by
 intro ps R post hh
 obtain⟨i,l,K,x,rfl,rfl,⟨⟨hl,hK,h0,hi⟩,hx⟩,hp⟩:=hh
 (rw[<-qiX];delta UH Zdl Ed N1 Zdu ZdH ZdG Zt Zv QV vG vH vI zg z7 zh z8 Aa lj zi zj zk zl zm ug uh ui vJ Ab Z7 ZdF jY VF ZdE ZE cP fu ZbO Zc ZdC fC ZdB og Zds ZdA Zn Zdz Zdy Zdw Za Z9 Zb Zdv G9 Z9d Zk Z9c GM Zdr Zdq OD UG Zj cX ZbP Zdo Zy Zz Zw mx Zx ZW D6 Ot OC Zdi rB OE OG r6 iC r4 bT I9 Zdk)
 have hr:=tq hx.r.1 (show(0:Int)<3 by decide)
 have hxr:=hx.r
 have hxa:=hx.a
 have h3:=hK.len
 have qp:=hl.len
 generalize x.r.tmod 3=q at*
 have uC:(1+q-1).toNat=q.toNat:=by omega
 have hqn:q.toNat<K.length:=by omega
 have e1:D.nth (K.map fun v=>D.sl 1 (aZ v)) q.toNat=D.sl 1 (aZ K[q.toNat]):=ay _ _ _ hqn
 have hS:=jA.start hK (r:=1+q) (by omega) (by omega)
 have hv0:K.getD (1+q-1).toNat []=K[q.toNat]:=by rw[uC,zac,zae hqn];rfl
 rw[hv0] at hS
 simp only[zbh,zaF,zaa,zap,zat,uC,e1]
 have u0:D.e8 (D.sl 1 (aZ K[q.toNat]))=aZ K[q.toNat]:=rfl
 rw[u0]
 have hNo:BQ i l x l K:=⟨hl.mono,hK.mono,fun _ h=>h⟩
 have bZ:=hp l K hNo
 have hMo: ∀v g,jA i K (1+q) v->yX l v (1+q) g->(x.what.tmod 8≠7->g.b7=(0,0))->BQ i l x (l++[g]) (K.set q.toNat (bp (gI v (1+q) (eo v (1+q)+1)))):=fun v g hv hg hz=>by
  have:=hg.qcn hl hK ⟨h0,by omega⟩ (by omega) (by omega) hv
  rw[uC] at this
  refine⟨this.1,this.2,fun h7 hy y hy2=> ?_⟩
  rcases zaG.1 hy2 with h |h
  ·exact hy y h
  ·rw[zbf.1 h]
   exact hz h7
 have hEq: ∀(g:aj) (u:List Int) (z:List D),D.agg [D.sl 7 ((l++[g]).map aU),D.sl 1 ((K.set q.toNat u).map fun v=>D.sl 1 (aZ v))]=D.agg [D.sl 7 (List.take (l.length+1) (List.take l.length (l.map aU)++[aU g])),D.sl 1 (List.take K.length ((K.map fun v=>D.sl 1 (aZ v)).set q.toNat (D.aV (D.sl 1 z) [D.sl 1 (aZ u)])))]:=fun g u z=>by
  simp[D.aV,zb0,zai]
 refine ak (by omega) (ak (by omega) (ak (by omega) (ak (by omega) (ao (qaq _) (ax (fun _=>⟨l,K,x,1+q,K[q.toNat],rfl,⟨by omega,hS.vec.1,fun w hw=>(hK.vec w hw).1⟩,fun v hv=> ?a⟩) fun _=> ?b)))))
 case' a=>
  replace hS:jA i K (1+q) v:=by rw[hv];exact jA.all hK (by omega) (by omega) K _ hS fun _ h=>h
  clear hv
 case' b=>generalize K[q.toNat]=v at*
 all_goals
  have hvl:=nY hS.vec.1
  have ha:=yV hS.vec.1 (1+q)
  have hb:=hS.vec.2 (1+q)
  have hm:=hl.mQ h0 v
  have tA:=(hl.known v).len
  have hrk:aN K.length 24=true:=cT (by omega) (by omega)
  have hrl:aN l.length 88=true:=cT (by omega) (by omega)
  have qhl:aN (l.length+1) 88=true:=cT (by omega) (by omega)
  have hwo:=fun g=>hMo v g hS
  refine⟨l,v,rfl,rfl,⟨by omega,by omega⟩,fun o ho=>⟨v,1+q,rfl,rfl,by omega,ak (by omega) ⟨o,by rw[jS],rfl,by rw[ho];omega,fun t ht=>ak (by rw[ho] at ht;omega) (Bt (fun h7=> ?_) fun h7=> ?_)⟩⟩⟩
  ·refine Bt (fun _=>bZ) fun dG=> ?_
   have hq2:=tq hxa.1 (show(0:Int)<(o.length:Int) by omega)
   generalize x.a.tmod (o.length:Int)=p at*
   have hpn:p.toNat<o.length:=by omega
   have e2:D.nth (o.map aU) p.toNat=aU o[p.toNat]:=ay _ _ _ hpn
   rw[e2]
   have hym:o[p.toNat]∈aS l v:=ho▸zas hpn
   generalize o[p.toNat]=y at*
   refine ak (by omega) (ao (by rw[zaL (by omega)];rfl) (ak (by omega) (ak hpn (ao (ft _) ⟨v,1+q,_,rfl,rfl,⟨by omega,by omega,by omega⟩,fun w hw=>ao (by rw[hrk];rfl) (ak (by omega) (ak (by omega) ?_))⟩))))
   try rw[uC,e1]
   refine ak hqn (ao (qaq _) (ao (by rw[hrl];rfl) (ao (by rw[qhl];simp) ?_)))
   rw[hw]
   have hg:=hp _ _ (hwo ⟨fP l v (1+q),eo v (1+q)+1,v,y.s,[]⟩ ⟨rfl,rfl,rfl,.inl ⟨y,hym,rfl,rfl⟩⟩ fun h=>absurd h7 h)
   refine Eq.mp (congrArg (fun z=>post (P.d z,[])) ?_) hg
   rw[ht,ho]
   exact hEq _ _ _
  ·refine⟨i,l,v,1+q,x,by rw[jS,ho,ht,ho];rfl,rfl,⟨hl,⟨h0,hi⟩,hx⟩,fun u b hu=>ax (fun _=>bZ) fun cm=>⟨v,1+q,_,rfl,rfl,⟨by omega,by omega,by omega⟩,fun w hw=>ao (by rw[hrk];rfl) (ak (by omega) (ak (by omega) ?_))⟩⟩
   obtain⟨⟨m,EC⟩,hu2,hu3⟩:=hu (by simpa using cm)
   try rw[uC,e1]
   refine ak hqn (ao (qaq _) (ao (by rw[hrl];rfl) (ao (by rw[qhl];simp) ?_)))
   rw[hw]
   have hg:=hp _ _ (hwo ⟨fP l v (1+q),eo v (1+q)+1,v,(0,0),[u]⟩ ⟨rfl,rfl,rfl,.inr ⟨rfl,u,m,rfl,EC,hu2,hu3⟩⟩ fun _=>rfl)
   refine Eq.mp (congrArg (fun z=>post (P.d z,[])) ?_) hg
   rw[ht,ho]
   exact hEq _ _ _)
theorem bQ.le {i j:Int} {l:List aj} (h:bQ i l) (qq:i<=j):bQ j l:=⟨h.JL,h.nd,fun g hg=>by have:=h.sm g hg;exact⟨this.1,by omega,this.2.2⟩,by have:=h.len;omega⟩
theorem qhm (x:cB):cC PR 41 (vZ x)=true:=by kernel_rfl
def UQ (m:List cB) (b:List aj×List (List Int)) (i:Int):S:=if i=0 then oM m else hi3 m b.1 b.2 i
theorem qas:LD X 11 3 (ae (aL 11 3) qeA):=LD.idx (H:=[(29,LG)]) (hk:=[]) (by kernel_rfl) (by kernel_rfl) (.cons qeL .nil) .nil
 (A:=List cB) (B:=List aj×List (List Int)) UQ (fun m=>min m.length 16)
 (fun m i b=>y9 m/\(i=0->b=([],[[],[],[]]))/\WOk i b.1 b.2/\((∀x∈m,x.what.tmod 8≠7)-> ∀y∈b.1,y.b7=(0,0)))
 (fun m z=>(z=(.exit 0,⟨25,[(3,.ref 0 0 0)],[(0,⟨0,none,.box 62 [.d .fQ,.sl 1 0 3]⟩),(1,⟨0,none,arV false [[],[],[]]⟩)]⟩))\/ ∃l K,BR m l/\z=(.exit 0,⟨25,[(3,.ref 0 0 0)],[(0,⟨0,none,bxW l K⟩)]⟩))
 (by
  rintro m ⟨l,K⟩ i post h0 bN bg ⟨hc,hb,hw,hz⟩ hn br
  try dsimp only at*
  have VZ:i<m.length:=by omega
  have hmn:i.toNat<m.length:=by omega
  have e1:D.nth (m.map vZ) i.toNat=vZ m[i.toNat]:=ay _ _ _ hmn
  have hx:=hc.2 _ (zas hmn)
  have fB:0<=i/\i<((m.map vZ).length:Int):=by rw[zaa];exact⟨h0,VZ⟩
  have Mz: ∀l' K',BQ i l m[i.toNat] l' K'->post (.normal,hi3 m l' K' (i+1)):=fun l' K' h=>by
   have N9:((i.toNat+1:Nat):Int)=i+1:=by omega
   have:=hn (l',K') ⟨hc,fun h=>by omega,by rw[N9];exact⟨h.1,h.2.1,by omega,by omega⟩,fun hh=>h.2.2 (hh _ (zas hmn)) (hz hh)⟩
   unfold UQ at this
   rw[zam (by omega)] at this
   exact this
  have hwi:WOk i l K:=by rw[show((i.toNat:Nat):Int)=i by omega] at hw;exact hw
  unfold UQ
  by_cases oM:i=0
  ·rw[zao oM]
   subst oM
   have hb:=hb rfl
   cases hb
   (rw[<-qbr];delta Lr ZdM bT dF Hf Ed cP cX OC ZR ZdK Zx VF OD ZdL ZdI)
   have e2:D.nth (m.map vZ) 0=vZ m[Int.toNat 0]:=e1
   rw[e2]
   refine bJ fB.2 (ak fB (ao (qhm _) ⟨0,[],[[],[],[]],m[Int.toNat 0],rfl,rfl,⟨hwi,hx⟩,fun l' K' h=>Mz l' K' h⟩))
  ·rw[zam oM]
   (rw[<-qbq];delta bT dF Hf Ed cP cX OC Zn vi ZdK Za Z9 Zj Zx VF OD Zg ZdJ ZdI;rw[e1])
   exact bJ fB.2 (bJ (by omega) (ak fB (ao (qhm _) ⟨i,l,K,m[i.toNat],rfl,rfl,⟨hwi,hx⟩,fun l' K' h=>ak (by omega) (Mz l' K' h)⟩))))
 (by
  rintro m ⟨l,K⟩ i post hi ⟨hc,hb,hw,hz⟩ br
  try dsimp only at*
  unfold UQ
  by_cases oM:i=0
  ·rw[zao oM]
   (rw[<-qbr];delta Lr ZdM bT dF Hf Ed cP cX OC ZR ZdK Zx VF OD ZdL ZdI)
   exact lK (by rw[zaa];omega) (br _ (fun h=>by cases h) (.inl rfl))
  ·rw[zam oM]
   (rw[<-qbq];delta bT dF Hf Ed cP cX OC Zn vi ZdK Za Z9 Zj Zx VF OD Zg ZdJ ZdI)
   have hH:BR m l:=⟨hw.1.le (by omega),hz⟩
   have Xe:=br _ (fun h=>by cases h) (.inr ⟨l,K,hH,rfl⟩)
   exact cA (fun h1=>cA (fun h2=>by rw[zaa] at h1;omega) fun _=>Xe) fun _=>Xe)
 (by
  rintro s post ⟨m,rfl,hc,h1,h2⟩
  refine⟨m,([],[[],[],[]]),by unfold UQ;rw[zao rfl],⟨hc,fun _=>rfl,⟨T7.1,T7.2,by decide,by decide⟩,fun _ y hy=>by cases hy⟩,?_⟩
  rintro z (rfl | ⟨l,K,h,rfl⟩)
  ·exact h1
  ·exact h2 l K h)
theorem qhn:FD X 11 qeB:=FD.mk (H:=[]) (hk:=[(3,ae (aL 11 3) qeA)]) (by kernel_rfl) .nil (.cons qas .nil) (by
 intro ps R post hh
 obtain⟨m,rfl,rfl,hs,h1,h2⟩:=hh
 (rw[<-qg9];delta cP cX Ot Z5l ZQ Lr ZdM Z7 M3 bT dF ZdK)
 exact⟨m,rfl,hs,h1,fun l _ h=>h2 l h⟩)
end
abbrev sgH (a b:aj) (i:Int):S:=⟨61,[(2,.ref 0 0 0),(3,.ref 1 0 0),(5,iD i)],[(0,⟨0,none,Ao a⟩),(1,⟨0,none,Ao b⟩)]⟩
def hNo:bq:=fun _ _ _=>False
theorem qho (a b:aj) (i:Int) (post:PX×S->Prop):(bif Rf i a then bif Om i a then bif Ol a i then bif Om i b then bif Ol b i then False else False else False else False else False else post (PX.exit 0,S.mk 61 [] []))=(aD [(39,hNo)] [] 22 4 (sgH a b i)) post:=by kernel_rfl
def gSg:S->K (PX×S):=fun s post=> ∃a b,s=sgH a b 0/\a.ops=[]/\post (.exit 0,⟨61,[],[]⟩)
def Ze8 (a:aj) (b:aj):S:=S.mk 61 (I9::r4::ZN) [(0,jC a),(1,jC b)]
theorem qi6 (a b:aj) (post:P×List (Nat×En)->Prop):(bif !(iU a==iU b&&(iB a==iB b&&true)) then Z4 post else bif aj.n a !=aj.n b then Z4 post else∃(v:List Int) (w:List Int),[lW a,lW b]=Zk v::ZW w/\Zx/\iP v/\bif !decide (v=w) then Z4 post else bif !(Prod.fst (aj.b7 a)==Prod.fst (aj.b7 b)&&(Prod.snd (aj.b7 a)==Prod.snd (aj.b7 b)&&true)) then Z4 post else bif vg a !=vg b then Z4 post else∃(kF:aj) (Sw:aj),Ze8 a b=Ze8 kF Sw/\aj.ops kF=[]/\ZP post)=(aJ [(26,FE)] [(4,ae (aL 22 4) gSg)] 22 [.d (aU a),.d (aU b)] []) post:=by kernel_rfl
def hSg:bq:=fun ps R post=> ∃a b:aj,ps=[.d (aU a),.d (aU b)]/\R=[]/\(a.ops=[]/\b.ops=[]/\iP a.deps)/\ ∀c:Bool,(c=true↔a=b)->post (.d (.bool c),[])
def uA:aj:=⟨(1,1),1,[],(0,0),[⟨0,(1,1,0),aA,[97],true,[],aA,aA,[],[]⟩]⟩
def Ze9:D:=D.agg [ZR,ZR,ZR,Lr,Z7,Z7,D.sl 18 [D.agg (Z7::ZR::ZR::Z7::Z7::Z7::Z7::D.str [(97:UInt8)]::D.bool true::Oh::Vc)]]
theorem qeM (post:P×List (Nat×En)->Prop):(post (P.d Ze9,[]))=(aJ [] [] 21 [] []) post:=by kernel_rfl
def UR:bq:=fun ps R post=>ps=[]/\R=[]/\post (.d (aU uA),[])
def Zee (a_4:aj) (b:aj):Prop:=aj.ops a_4=[]/\aj.ops b=[]/\iP (aj.deps a_4)
def Zed (e:Int) (l:List aj) (r:Int):Prop:=e=pO (aH l) r
def Zec (g:aj) (l:List aj) (r:Int):Prop:=g=vj (aH l) r
def Zeb (l:List aj) (r:Int):Prop:=P.d (D.sl 7 [Ze9])::ZX=TN l r
def Zea:Prop:=EqP [] []
theorem qeN (post:P×List (Nat×En)->Prop):(Zea/\Zx/\ ∃(l:List aj) (r:Int),Zeb l r/\Zx/\nT l/\ ∀(g:aj) (e:Int),Zec g l r->Zed e l r-> ∃(l:List aj) (r:Int),Zeb l r/\Zx/\nT l/\ ∀(a:az×Int),a=Ga l r-> ∃(l:List aj) (r:Int),Zeb l r/\Zx/\nT l/\ ∀(a_2:az×Int),a_2=Bs l r->bif e==(0:Int) then∃(a_4:aj) (b:aj),[oQ g,P.d (D.agg (WV::ZR::WV::D.sl 1 [ZR]::Z96))]=oQ a_4::I7 b/\Zx/\Zee a_4 b/\ ∀(c:Bool),(c=true↔a_4=b)->bif c then bif Prod.snd a==(0:Int) then bif Prod.fst (Prod.fst a)==D.ah (D.aq (D.nth [Ze9] 0) 0)&&(Prod.snd (Prod.fst a)==D.ah (D.aq (D.nth [Ze9] 0) 1)&&true) then post (P.d (D.bool (Prod.snd a_2==(200:Int))),[]) else Z4 post else Z4 post else Z4 post else Z4 post)=(aJ [(21,UR),(12,hHn),(19,BL),(17,BS),(22,hSg)] [] 9 [] []) post:=by kernel_rfl
def za:bq:=fun ps R post=>ps=[]/\R=[]/\post (.d (.bool true),[])
theorem BT {α:Type} (f:α->D) (P:D->Prop) (Q:α->Prop) (h1: ∀y,P y-> ∃x,y=f x/\Q x): ∀es:List D,(∀y∈es,P y)-> ∃l:List α,es=l.map f/\ ∀x∈l,Q x
 | [],_=>⟨[],rfl,by simp⟩
 |y::es,hy=>by
  obtain⟨l,rfl,hl⟩:=BT f P Q h1 es fun y h=>hy y (.tail _ h)
  obtain⟨x,rfl,hx⟩:=h1 y (hy y (.head _))
  exact⟨x::l,rfl,fun z hz=>by rcases zav.1 hz with rfl |hz;exact hx;exact hl z hz⟩
section
variable {X:XF}
theorem qhp:FD X 39 hNo:=FD.mk (H:=[]) (hk:=[]) (by kernel_rfl) .nil .nil (by
 intro ps R post hh
 exact False.elim hh)
theorem qat:LD X 22 4 (ae (aL 22 4) gSg):=LD.idx (H:=[(39,hNo)]) (hk:=[]) (by kernel_rfl) (by kernel_rfl) (.cons qhp .nil) .nil
 (A:=aj×aj) (B:=Unit) (fun a _ i=>sgH a.1 a.2 i) (fun _=>0) (fun a _ _=>a.1.ops=[]) (fun _ x=>x=(.exit 0,⟨61,[],[]⟩))
 (by
  rintro a _ i post h0 bN bg hI hn ho
  exact absurd bg (by simp))
 (by
  rintro⟨a,b⟩ _ i post hi hI ho
  try dsimp only at*
  (rw[<-qho];delta Zg jB Ol vg Om Rf)
  have fB: ¬i<((a.ops.map eH).length:Int):=by rw[hI,hi];decide
  exact eA (zaL fB) (ho _ (fun h=>by cases h) rfl))
 (by
  rintro s post ⟨a,b,rfl,h1,h2⟩
  refine⟨(a,b),(),rfl,h1,?_⟩
  rintro x rfl
  exact h2)
theorem qhq:FD X 22 hSg:=FD.mk (H:=[(26,FE)]) (hk:=[(4,ae (aL 22 4) gSg)]) (by kernel_rfl) (.cons Qz .nil) (.cons qat .nil) (by
 intro ps R post hh
 obtain⟨a,b,rfl,rfl,⟨ha,hb,hv⟩,hp⟩:=hh
 (rw[<-qi6];delta ZO ZP mZ jg jh lW oC iB gK iU gN jC Z7 ZN iC r4 bT I9 Ze8 vg Zx Zk ZW Z3 Z4)
 obtain⟨s,n,d,u,o⟩:=a
 obtain⟨s',n',d',u',o'⟩:=b
 dsimp only at*
 subst ha hb
 have v1:(s.1==s'.1&&(s.2==s'.2&&true))=(s==s'):=MY s s'
 have v2:(u.1==u'.1&&(u.2==u'.2&&true))=(u==u'):=MY u u'
 rw[v1,v2]
 refine ax (fun h=>hp false ⟨(fun h=>by cases h),fun e=> ?_⟩) fun h1=>ax (fun h=>hp false ⟨(fun h=>by cases h),fun e=> ?_⟩) fun h2=>⟨d,d',rfl,rfl,hv,ax (fun h=>hp false ⟨(fun h=>by cases h),fun e=> ?_⟩) fun h3=>ax (fun h=>hp false ⟨(fun h=>by cases h),fun e=> ?_⟩) fun h4=>eA rfl ⟨⟨s,n,d,u,[]⟩,⟨s',n',d',u',[]⟩,rfl,rfl,hp true ⟨fun _=> ?_,fun _=>rfl⟩⟩⟩
 ·cases e;simp at h
 ·cases e;simp at h
 ·cases e;simp at h
 ·cases e;simp at h
 ·simp only[zcP,zaS,zah,bne_eq_false_iff_eq] at h1 h2 h3 h4
  rw[h1,h2,h3,h4])
theorem qeO:FD X 21 UR:=FD.mk (H:=[]) (hk:=[]) (by kernel_rfl) .nil .nil (by
 intro ps R post hh
 obtain⟨rfl,rfl,hp⟩:=hh
 (rw[<-qeM];delta Z2N zd Z7 Vc Oh Lr ZR Ze9)
 exact hp)
theorem US:nT [uA]:=⟨by decide,fun g hg=>by
 rw[zbf] at hg
 subst hg
 exact⟨fun o ho=>by
  have:o=⟨0,(1,1,0),aA,[97],true,[],aA,aA,[],[]⟩:=by simpa [uA] using ho
  subst this
  exact⟨by decide,by decide,by decide⟩,by decide,by decide⟩⟩
def qeP:aj:=⟨(2,1),2,[1],(0,0),[]⟩
variable (hX:XT X)
include hX
theorem N3:FD X 9 za:=FD.mk (H:=[(21,UR),(12,hHn),(19,BL),(17,BS),(22,hSg)]) (hk:=[]) (by kernel_rfl) (.cons qeO (.cons qgt (.cons (qal hX) (.cons (qam hX) (.cons qhq .nil))))) .nil (by
 intro ps R post hh
 obtain⟨rfl,rfl,hp⟩:=hh
 (rw[<-qeN];delta Z3 Z4 Z2N zd Z7 Vc Oh Lr ZR Ze9 Zee jg jh iB gK iU gN oQ I7 Z96 WV Zed Zec Zt Zv cP cX TN ZX Zeb Zx Zea)
 refine⟨rfl,rfl,[uA],1,rfl,rfl,US,fun g e hg he=>⟨[uA],1,rfl,rfl,US,fun a ha=>⟨[uA],1,rfl,rfl,US,fun b hb=> ?_⟩⟩⟩
 have e1:g=qeP:=hg.trans (by kernel_rfl)
 have e2:e=0:=he.trans (by kernel_rfl)
 have e3:a=((1,1),0):=ha.trans (by kernel_rfl)
 have e4:b=((0,0),200):=hb.trans (by kernel_rfl)
 rw[e1,e2,e3,e4]
 refine ju rfl ⟨qeP,qeP,rfl,rfl,⟨rfl,rfl,by decide⟩,fun c hc=> ?_⟩
 have:c=true:=hc.2 rfl
 subst this
 exact ju rfl (ju rfl (ju rfl hp)))
end
def Zeg (m:List cB) (bY:List cB):Prop:=[P.d (D.sl 6 (List.map vZ m))]=[P.d (D.sl 6 (List.map vZ bY))]
abbrev nx9 (g:List aj) (h:aj) (i:Int):S:=⟨104,[(5,.d (.bool true)),(6,bP g),(7,.ref 0 0 0),(9,iD i)],[(0,⟨0,none,Ao h⟩)]⟩
abbrev nx0 (h:aj):S:=⟨104,[(5,.d (.bool true)),(6,.sl 0 0 0),(7,.ref 1 0 0),(9,iD 0)],[(0,⟨0,none,oR true []⟩),(1,⟨0,none,Ao h⟩)]⟩
def Zej (g:List aj):List (Nat×P):=[Ov,(6,cX g),(7,bT)]
theorem qbs (g:List aj) (h:aj) (i:Int) (post:PX×S->Prop):(bif oG i g then bif ji i g then bif ep g i then∃(a:az) (b:az),P.d (sW g i)::DW h=ze a b/\Zx/\ ∀(r:Bool),r=lG a b->bif jY r then post (PX.ret,S.mk 104 ((4,P.d Z3)::Zej g) (vL h)) else bif ji i g then bif ep g i then∃(l:List Int) (r:Int),[lW h,P.d (oE g i)]=Zk l::Zv r/\Zx/\Zz l/\bif ji i g then bif ep g i then bif decide (eo l r<Ae g i) then post (PX.ret,S.mk 104 ((4,P.d Z3)::Zej g) (vL h)) else bif Zj i then post (PX.normal,S.mk 104 (Ov::(6,cX g)::(7,bT)::ZH i) (vL h)) else False else False else False else False else False else False else False else post (PX.exit 0,S.mk 104 (Zej g) (vL h)))=(aD [(14,lV),(13,Iu)] [] 5 9 (nx9 g h i)) post:=by kernel_rfl
def Zek (h:aj):List (Nat×En):=[(0,En.mk 0 none (Obj.arr (34:TypeId) true [])),(1,jC h)]
theorem qhr (h:aj) (post:PX×S->Prop):(post (PX.exit 0,S.mk 104 [Ov,(6,ZQ),(7,iC)] (Zek h)))=(aD [(14,lV),(13,Iu)] [] 5 9 (nx0 h)) post:=by kernel_rfl
def qau (g:List aj) (h:aj):Prop:=(g.length<=1000000/\h.deps.length<=1000000)/\ ∀x∈g,lG x.s h.s=true/\x.n<=eo h.deps x.s.2
def qeQ:S->K (PX×S):=fun s post=>(∃h,s=nx0 h/\post (.exit 0,⟨104,[(5,.d (.bool true)),(6,.sl 0 0 0),(7,.ref 1 0 0)],[(0,⟨0,none,oR true []⟩),(1,⟨0,none,Ao h⟩)]⟩))\/(∃g h,s=nx9 g h 0/\qau g h/\post (.exit 0,⟨104,[(5,.d (.bool true)),(6,bP g),(7,.ref 0 0 0)],[(0,⟨0,none,Ao h⟩)]⟩))
def Zeo (post:P×List (Nat×En)->Prop) (h:aj):Prop:=post (P.d (D.bool (iU h==(1:Int))),[])
def Zeq (aO:List aj) (h:aj) (post:P×List (Nat×En)->Prop):Prop:=qau aO h/\bif decide ((↑(fC aO):Int)>(0:Int)) then ZP post else Zeo post h
def Zep (aO:List aj) (h:aj):S:=S.mk 104 (Ov::(6,cX aO)::(7,bT)::Z3y) (vL h)
def Zen (g:aj):S:=S.mk 104 (Ov::(6,ZQ)::(7,iC)::Z3y) (Zek g)
def Zel (r:Int):Int:=(1:Int)+Int.tmod r (16:Int)
def Zem (r:Int):Bool:=decide (Z9<=Zel r/\Zel r<=Za)
theorem qi7 (m:List cB) (r:Int) (post:P×List (Nat×En)->Prop):(Zea/\Zx/\ ∃(bY:List cB),Zeg m bY/\Zx/\y9 bY/\(bif Zde r then bif Zem r then∃(l:List aj) (cz:Int),[P.d (D.sl 7 []),P.d (D.int .i64 (Zel r))]=TN l cz/\Zx/\nT l/\ ∀(g:aj) (e:Int),Zec g l cz->Zed e l cz->bif e !=(0:Int) then Z4 post else bif Zde r then bif Zem r then bif iB g !=Zel r then Z4 post else∃(l:List Int) (r:Int),Z3R g l r/\Zx/\Zz l/\bif Zdo l r then bif aj.n g !=eo l r+(1:Int) then Z4 post else bif Z4d g then Z4 post else bif Z4a g then Z4 post else(∃(h:aj),Zen g=Zen h/\Zeo post h)\/ ∃(aO:List aj) (h:aj),Zen g=Zep aO h/\Zeq aO h post else False else False else False else False else False)/\ ∀(g:List aj),BR bY g->bif Zde r then bif Zem r then∃(l:List aj) (cz:Int),[cX g,P.d (D.int .i64 (Zel r))]=TN l cz/\Zx/\nT l/\ ∀(aO:aj) (e:Int),Zec aO l cz->Zed e l cz->bif e !=(0:Int) then Z4 post else bif Zde r then bif Zem r then bif iB aO !=Zel r then Z4 post else∃(l:List Int) (r:Int),Z3R aO l r/\Zx/\Zz l/\bif Zdo l r then bif aj.n aO !=eo l r+(1:Int) then Z4 post else bif Z4d aO then Z4 post else bif Z4a aO then Z4 post else(∃(h:aj),Zep g aO=Zen h/\Zeo post h)\/ ∃(sT:List aj) (h:aj),Zep g aO=Zep sT h/\Zeq sT h post else False else False else False else False else False)=(aJ [(9,za),(11,qeB),(12,hHn),(13,Iu)] [(9,ae (aL 5 9) qeQ)] 5 [.d (.sl 6 (m.map vZ)),.d (uE r)] []) post:=by kernel_rfl
theorem BU {n:Int} (hw:(Lit.int .u8 n).wf=true):0<=n/\n<=255:=by
 have h1:IntKind.min .u8=0:=by decide
 have h2:IntKind.max .u8=255:=by decide
 replace hw:(decide (IntKind.min .u8<=n)&&decide (n<=IntKind.max .u8))=true:=hw
 rw[h1,h2,zab,zah,zah] at hw
 exact hw
theorem qhs {m:Nat} {x:D} (h:zV PR (m+1) 5 x): ∃n,x=uE n/\0<=n/\n<=255:=by
 obtain⟨n,rfl,hw⟩:=Qe Tryz.underlying5 h
 exact⟨n,rfl,BU hw⟩
theorem qht {m:Nat} {x:D} (h:zV PR (m+3) 41 x): ∃d:cB,x=vZ d/\DN d:=by
 obtain⟨cs,rfl,hl,hf⟩:=Fa (k:=6) Tryz.underlying41 (by kernel_rfl) h
 obtain⟨a,b,c,d,e,f,rfl⟩: ∃a b c d e f,cs=[a,b,c,d,e,f]:=by
  match cs,hl with
  | [a,b,c,d,e,f],_=>exact⟨a,b,c,d,e,f,rfl⟩
 have z0:PR.cellsOf 5=1:=by kernel_rfl
 have z3:PR.cellsOf 4=1:=by kernel_rfl
 have g0:=hf _ (zbP ..)
 have g1:=hf _ (zaH _ (zbP ..))
 have g2:=hf _ (zaH _ (zaH _ (zbP ..)))
 have g3:=hf _ (zaH _ (zaH _ (zaH _ (zbP ..))))
 have g4:=hf _ (zaH _ (zaH _ (zaH _ (zaH _ (zbP ..)))))
 have g5:=hf _ (zaH _ (zaH _ (zaH _ (zaH _ (zaH _ (zbP ..))))))
 simp only[z0,z3,zcm,List.drop_succ_cons,List.take_succ_cons,List.take_zero] at g0 g1 g2 g3 g4 g5
 obtain⟨x0,rfl,h0⟩:=sL Tryz.underlying5 g0
 obtain⟨x1,rfl,h1⟩:=sL Tryz.underlying5 g1
 obtain⟨x2,rfl,h2⟩:=sL Tryz.underlying5 g2
 obtain⟨x3,rfl,h3⟩:=sL Tryz.underlying5 g3
 obtain⟨x4,rfl,h4⟩:=sL Tryz.underlying5 g4
 obtain⟨x5,rfl⟩:=Qf Tryz.underlying4 g5
 exact⟨⟨x0,x1,x2,x3,x4,x5⟩,rfl,BU h0,BU h1,BU h2,BU h3,BU h4⟩
theorem qeR {m:Nat} {x:D} (h:zV PR (m+4) 26 x): ∃l:List cB,x= .sl 6 (l.map vZ)/\y9 l:=by
 obtain⟨es,rfl,hl,hy⟩:=Ih (k:=6) Tryz.underlying26 (by kernel_rfl) h
 obtain⟨l,rfl,hq⟩:=BT vZ _ DN (fun y hy=>qht hy) es hy
 refine⟨l,rfl,?_,hq⟩
 rw[zaa] at hl
 have:maxLen<=9223372036854775807:=by decide
 exact zaI hl this
theorem BV {g:List aj} (h:bQ 16 g) {q:Int} (h1:1<=q) (h2:q<=16):pO (aH g) q=0/\vj (aH g) q=⟨(mQ g+1,q),Br g q+1,oD g,(0,0),[]⟩:=by
 have e:=h.next (by decide) h1 h2
 rw[h.right]
 refine⟨e,?_⟩
 unfold vj
 rw[zao e]
 rfl
theorem GP:bQ 16 []:=T7.1.le (by decide)
theorem UT {g:List aj} (h:bQ 16 g) (q:Int):qau g ⟨(mQ g+1,q),Br g q+1,oD g,(0,0),[]⟩:=by
 have hl:=h.len
 have hv:(oD g).length<=16:=yy g
 refine⟨⟨by omega,by show(oD g).length<=1000000;omega⟩,fun x hx=>⟨?_,?_⟩⟩
 ·have:=(pN g).2 x hx
  exact wO.2 (.inl (by show x.s.1<mQ g+1;omega))
 ·have hs:=(h.sm x hx).1
  show x.n<=eo (oD g) x.s.2
  rw[wA g _ hs.1 (by omega)]
  exact Xy hx
section
variable {X:XF}
theorem qav:LD X 5 9 (ae (aL 5 9) qeQ):=LD.idx (H:=[(14,lV),(13,Iu)]) (hk:=[]) (by kernel_rfl) (by kernel_rfl) (.cons uk (.cons yc .nil)) .nil
 (A:=Bool×List aj×aj) (B:=Unit) (fun a _ i=>if a.1=true then nx0 a.2.2 else nx9 a.2.1 a.2.2 i) (fun a=>if a.1=true then 0 else a.2.1.length)
 (fun a _ _=>a.1=true\/qau a.2.1 a.2.2)
 (fun a z=>(a.1=true/\z=(.exit 0,⟨104,[(5,.d (.bool true)),(6,.sl 0 0 0),(7,.ref 1 0 0)],[(0,⟨0,none,oR true []⟩),(1,⟨0,none,Ao a.2.2⟩)]⟩))\/(a.1=false/\z=(.exit 0,⟨104,[(5,.d (.bool true)),(6,bP a.2.1),(7,.ref 0 0 0)],[(0,⟨0,none,Ao a.2.2⟩)]⟩)))
 (by
  rintro⟨z,g,h⟩ _ i post h0 bN bg hI hn br
  try dsimp only at*
  by_cases hz:z=true
  ·rw[zao hz] at bg
   exact absurd bg (by omega)
  ·have hI:=hI.resolve_left hz
   simp only[hz,zbd,zaz] at bN bg hn⊢
   (rw[<-qbs];delta Zn ZH bT cP cX ZO Ov Za Z9 Zj Zg gQ Ae Zy Zz Zt Zv Zk oE lW mZ jg jh oC iB gK iU gN jC vL Zej Z3 jY Zx kj km r1 oP ze IV DW oS sW ep fC ji oG)
   have e1:D.nth (g.map aU) i.toNat=aU g[i.toNat]:=ay _ _ _ bg
   have fB:0<=i/\i<((g.map aU).length:Int):=by rw[zaa];exact⟨h0,bN⟩
   have hx:=hI.2 _ (zas bg)
   have hlen:=hI.1
   rw[e1]
   generalize g[i.toNat]=x at*
   refine bJ fB.2 (ak fB (ao (ft _) ⟨x.s,h.s,rfl,rfl,fun b hb=>eA (by rw[hb,hx.1];rfl) (ak fB (ao (ft _) ⟨h.deps,x.s.2,rfl,rfl,by omega,ak fB (ao (ft _) (lK ?_ (ak (by omega) (hn () (.inr hI)))))⟩))⟩))
   have c2:D.ah (D.aq (aU x) 2)=x.n:=rfl
   rw[c2]
   omega)
 (by
  rintro⟨z,g,h⟩ _ i post hi hI br
  try dsimp only at*
  by_cases hz:z=true
  ·rw[zao hz]
   (rw[<-qhr];delta mZ jg jh lW oC iB gK iU gN jC Zek iC ZQ ZO Ov)
   exact br _ (fun h=>by cases h) (.inl ⟨hz,rfl⟩)
  ·simp only[hz,zbd,zaz] at hi⊢
   (rw[<-qbs];delta Zn ZH bT cP cX ZO Ov Za Z9 Zj Zg gQ Ae Zy Zz Zt Zv Zk oE lW mZ jg jh oC iB gK iU gN jC vL Zej Z3 jY Zx kj km r1 oP ze IV DW oS sW ep fC ji oG)
   exact lK (by rw[zaa];omega) (br _ (fun h=>by cases h) (.inr ⟨by simpa using hz,rfl⟩)))
 (by
  rintro s post (⟨h,rfl,hp⟩| ⟨g,h,rfl,hb,hp⟩)
  ·refine⟨(true,[],h),(),rfl,.inl rfl,?_⟩
   rintro z (⟨_,rfl⟩| ⟨h,_⟩)
   ·exact hp
   ·cases h
  ·refine⟨(false,g,h),(),rfl,.inr hb,?_⟩
   rintro z (⟨h,_⟩| ⟨_,rfl⟩)
   ·cases h
   ·exact hp)
def hLw:bq:=fun ps R post=> ∃m r,ps=[.d (.sl 6 (m.map vZ)),.d (uE r)]/\R=[]/\(y9 m/\0<=r/\r<=255)/\post (.d (.bool true),[])
variable (hX:XT X)
include hX
theorem qeS:FD X 5 hLw:=FD.mk (H:=[(9,za),(11,qeB),(12,hHn),(13,Iu)]) (hk:=[(9,ae (aL 5 9) qeQ)]) (by kernel_rfl) (.cons (N3 hX) (.cons qhn (.cons qgt (.cons yc .nil)))) (.cons qav .nil) (by
 intro ps R post hh
 obtain⟨m,r,rfl,rfl,⟨hm,hr⟩,hp⟩:=hh
 (rw[<-qi7];delta cP cX iU Zeo ZO ZP fC Zeq mZ jg jh lW oC iB gK gN jC vL Z7 Z3y bT Ov Zep Zek iC ZQ Zen Z4a vg Z4d Za Z9 Zdo Zy Zz Zt Zv Zk Z3R Z3 Z4 Zed Zec TN Zel Zem Zde Zeg Zx Zea)
 have hq:=tq hr.1 (show(0:Int)<16 by decide)
 generalize r.tmod 16=q at*
 refine⟨rfl,rfl,m,rfl,rfl,hm,ak (by omega) (ak (by omega) ⟨[],1+q,rfl,rfl,(GP.smS (by decide)).1,fun h e hh he=> ?_⟩),fun g hg=>ak (by omega) (ak (by omega) ⟨g,1+q,rfl,rfl,(hg.1.smS (by decide)).1,fun h e hh he=> ?_⟩)⟩
 ·have hN:=BV GP (q:=1+q) (by omega) (by omega)
  rw[hN.1] at he
  rw[hN.2] at hh
  subst he hh
  refine eA rfl (ak (by omega) (ak (by omega) (eA (by simp) ⟨_,_,rfl,rfl,by show(oD []).length<=9223372036854775807;decide,?_⟩)))
  have hv:=wA [] (1+q) (by omega) (by omega)
  have h0:Br [] (1+q)=0:=rfl
  simp only[hv,h0]
  exact ju (by decide) (eA (by decide) (eA rfl (eA rfl (.inl ⟨⟨(mQ []+1,1+q),0+1,oD [],(0,0),[]⟩,rfl,hp⟩))))
 ·have hN:=BV hg.1 (q:=1+q) (by omega) (by omega)
  have hv0:(oD g).length<=16:=yy g
  have N8:=hg.1.qha (by decide) (1+q)
  have hB:=UT hg.1 (1+q)
  rw[hN.1] at he
  rw[hN.2] at hh
  subst he hh
  refine eA rfl (ak (by omega) (ak (by omega) (eA (by simp) ⟨_,_,rfl,rfl,by show(oD g).length<=9223372036854775807;omega,?_⟩)))
  have hv:=wA g (1+q) (by omega) (by omega)
  simp only[hv]
  refine ak (by omega) (eA (by simp) (eA (by simp) (eA (by simp) (.inr ⟨g,_,rfl,hB,cA (fun _=>hp) fun hz=> ?_⟩))))
  have hg0:g=[]:=by
   cases g with
   |nil=>rfl
   |cons a b=>exact absurd (by simp) hz
  subst hg0
  exact hp)
end
theorem qeT {X:XF} {f:Nat} (hd:FD X f hLw) (xs:List D) (h:pB PR 8 [26,5] xs): ∃lf k R,fc PR (Ir X) lf k f (xs.map P.d) []=some (.d (.bool true),R):=by
 obtain⟨x,r,rfl,hx,h⟩:=fitAll_cons h
 obtain⟨y,r,rfl,hy,h⟩:=fitAll_cons h
 have e:=fitAll_nil h
 subst e
 obtain⟨l,rfl,hl⟩:=qeR hx
 obtain⟨n,rfl,hn⟩:=qhs hy
 obtain⟨lf,k,hr⟩:=hd.run (y:=(.d (.bool true),[])) ⟨l,n,rfl,rfl,⟨hl,hn⟩,rfl⟩
 exact⟨lf,k,[],hr⟩
theorem UU (xs:List D) (h:pB PR 8 [26,5] xs): ∃lf k R,fc PR (Ir LI) lf k 5 (xs.map P.d) []=some (.d (.bool true),R):=qeT (qeS qan) xs h
end Pi
