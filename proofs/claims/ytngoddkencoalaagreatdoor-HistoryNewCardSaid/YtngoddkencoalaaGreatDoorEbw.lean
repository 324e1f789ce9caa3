/- The texts Rm RmH Hi6 Hi6H Ro Vw2 Vw2H RoH HgP ElP GnP Gn2 Gn1 Gn1H Gn2H Gn3 HlP Hi7 Hi7H W20 Gn3H Ls LsF LsH Lt GnF LtH. -/
import Derived.Test.YtngoddkencoalaaGreatDoorEbv
import Derived.Lib.LaidTab
import Derived.Lib.LaidU8T
import Derived.Stop.LaidErr
import Derived.Shelf.Vars
import Derived.Lay
import Derived.Deep.DeepHandedRow
import Derived.SevenTiedAt
import Derived.ProofKit
import Derived.Test.YtngoddkencoalaaGreatDoorRows
namespace Pi
open Go Go.Proofs
set_option maxRecDepth 100000
set_option maxHeartbeats 0
abbrev md3(l:List ak)(p o:List Pl)(i:Int):S:=⟨78,[(0,bT l),(1,eH p),(5,.sl 0 0 o.length),(6,iD i)],[(0,⟨0,none,pT false o⟩)]⟩
abbrev md6(l:List ak)(p o:List Pl)(i j:Int):S:=⟨78,[(0,bT l),(1,eH p),(5,.sl 0 0 o.length),(6,iD i),(7,iD j)],[(0,⟨0,none,pT false o⟩)]⟩
abbrev md9(l:List ak)(p o:List Pl)(i j k:Int):S:=⟨78,[(0,bT l),(1,eH p),(5,.sl 0 0 o.length),(6,iD i),(7,iD j),(8,iD k)],[(0,⟨0,none,pT false o⟩)]⟩
def ZaI(k:Int)(ae:PX×S->Prop)(l:List ak)(p:List Pl)(o:List Pl)(i:Int)(j:Int):Prop:=bif Zj k then ae (PX.normal,S.mk 78 (gj l::Eg p::(5,ti o)::ZK i::rX j::qG k) (Hm o)) else False
def lA(l:List ak)(j:Int)(k:Int):D:=D.nth (D.fa (D.ar (ij l j) 6)) (Zg k)
def ZaH(p:List Pl)(i:Int)(l:List ak)(j:Int)(k:Int):List D:=[D.agg [NA p i,Nz p i,Ny p i,D.int .i64 (D.aj (D.ar (ou p i) 3)),D.int .i64 (D.aj (D.ar (ou p i) 4)),D.int .i64 (D.aj (D.ar (ou p i) 5)),D.str (D.eJ (D.ar (ou p i) 6)),D.bool (D.e9 (D.ar (lA l j k) 8))]]
def Hs(l:List ak)(j:Int)(k:Int):Int:=D.aj (D.ar (lA l j k) 0)
noncomputable def Ht(l:List ak)(j:Int)(k:Int):Bool:=cD PR (54:TypeId) (lA l j k)
def NU(l:List ak)(j:Int):Int:=(↑(List.length (D.fa (D.ar (ij l j) 6))):Int)
def Hu(k:Int)(l:List ak)(j:Int):Bool:=decide ((0:Int)<=k/\k<NU l j)
theorem qbh(l:List ak)(p o:List Pl)(i j k:Int)(ae:PX×S->Prop):(bif ko j l then bif eM l j then bif decide (k<NU l j) then bif ko j l then bif eM l j then bif Hu k l j then bif Ht l j k then bif Hs l j k==(0:Int) then bif ko j l then bif eM l j then bif Hu k l j then bif Ht l j k then bif Gt i p then bif qF p i then bif D.aj (D.ar (lA l j k) 1)==D.aj (D.ar (ou p i) 0)&&(D.aj (D.ar (lA l j k) 2)==D.aj (D.ar (ou p i) 1)&&true)&&(D.aj (D.ar (lA l j k) 3)==D.aj (D.ar (ou p i) 2)&&true) then bif Gt i p then bif qF p i then bif ko j l then bif eM l j then bif Hu k l j then bif Ht l j k then bif Nat.ble (jU o) (sb o)&&aM (jU o+List.length (ZaH p i l j k)) 72 then bif Zj k then ae (PX.normal,S.mk 78 (gj l::Eg p::(5,P.sl 0 0 (jU o+List.length (ZaH p i l j k)))::ZK i::rX j::qG k) [(0,En.mk 0 none (Obj.arr (104:TypeId) false (List.take (jU o) (iv o)++ZaH p i l j k)))]) else False else False else False else False else False else False else False else False else ZaI k ae l p o i j else False else False else False else False else False else False else ZaI k ae l p o i j else False else False else False else False else ae (PX.exit 4,S.mk 78 [gj l,Eg p,(5,ti o),ZK i,rX j] (Hm o)) else False else False)=(aG [] [] 54 9 (md9 l p o i j k)) ae:=by kernel_rfl
def qd3:S->K (PX×S):=λs ae=> ∃(l:List ak) (p o:List Pl) (i j:Int) (hi:i.toNat<p.length) (hj:j.toNat<l.length),s=md9 l p o i j 0/\((0<=i/\0<=j/\p.length<=1000)/\l.length<=1000000/\o.length<=1000/\l[j.toNat].ops.length<=200)/\ ∀o',o'=o++mdG p[i.toNat] l[j.toNat]->ae (.exit 4,md6 l p o' i j)
theorem qbi(l:List ak)(p o:List Pl)(i j:Int)(ae:PX×S->Prop):(bif decide (j<(↑(List.length (List.map aV l)):Int)) then∃(au:List ak),∃(l4:List Pl),∃(aP:List Pl),∃(aH:Int),∃(j_1:Int),∃(hi:Int.toNat aH<List.length l4),∃(hj:Int.toNat j_1<List.length au),S.mk 78 [(0,P.d (D.sl 7 (List.map aV l))),(1,P.d (D.sl 8 (List.map bK p))),(5,P.sl 0 0 (List.length o)),(6,P.d (D.int IntKind.i64 i)),(7,P.d (D.int IntKind.i64 j)),(8,P.d (D.int IntKind.i64 (0:Int)))] [(0,En.mk 0 none (Obj.arr 104 false (List.map bK o)))]=S.mk 78 [(0,P.d (D.sl 7 (List.map aV au))),(1,P.d (D.sl 8 (List.map bK l4))),(5,P.sl 0 0 (List.length aP)),(6,P.d (D.int IntKind.i64 aH)),(7,P.d (D.int IntKind.i64 j_1)),(8,P.d (D.int IntKind.i64 (0:Int)))] [(0,En.mk 0 none (Obj.arr 104 false (List.map bK aP)))]/\(((0:Int)<=aH/\(0:Int)<=j_1/\List.length l4<=1000)/\List.length au<=1000000/\List.length aP<=1000/\List.length (ak.ops au[Int.toNat j_1])<=200)/\ ∀(o':List Pl),o'=aP++mdG l4[Int.toNat aH] au[Int.toNat j_1]->bif decide ((-9223372036854775808:Int)<=j_1+(1:Int)/\j_1+(1:Int)<=(9223372036854775807:Int)) then ae (PX.normal,S.mk 78 [(0,P.d (D.sl 7 (List.map aV au))),(1,P.d (D.sl 8 (List.map bK l4))),(5,P.sl 0 0 (List.length o')),(6,P.d (D.int IntKind.i64 aH)),(7,P.d (D.int IntKind.i64 (j_1+(1:Int))))] [(0,En.mk 0 none (Obj.arr 104 false (List.map bK o')))]) else False else ae (PX.exit 2,S.mk 78 [(0,P.d (D.sl 7 (List.map aV l))),(1,P.d (D.sl 8 (List.map bK p))),(5,P.sl 0 0 (List.length o)),(6,P.d (D.int IntKind.i64 i))] [(0,En.mk 0 none (Obj.arr 104 false (List.map bK o)))]))=(aG [] [(9,ah (aO 54 9) qd3)] 54 6 (md6 l p o i j)) ae:=by kernel_rfl
def qd4:S->K (PX×S):=λs ae=> ∃(l:List ak) (p o:List Pl) (i:Int) (hi:i.toNat<p.length),s=md6 l p o i 0/\((0<=i/\p.length<=1000)/\l.length<=1000000/\o.length<=999/\(∀g∈l,ct g=true)/\(l.map (·.s)).Nodup)/\ ∀o',o'=o++Ea l p[i.toNat]->ae (.exit 2,md3 l p o' i)
theorem qbj(l:List ak)(p o:List Pl)(i:Int)(ae:PX×S->Prop):(bif decide (i<(↑(List.length (List.map bK p)):Int)) then∃(au:List ak),∃(l4:List Pl),∃(aP:List Pl),∃(aH:Int),∃(hi:Int.toNat aH<List.length l4),S.mk 78 [(0,P.d (D.sl 7 (List.map aV l))),(1,P.d (D.sl 8 (List.map bK p))),(5,P.sl 0 0 (List.length o)),(6,P.d (D.int IntKind.i64 i)),(7,P.d (D.int IntKind.i64 (0:Int)))] [(0,En.mk 0 none (Obj.arr 104 false (List.map bK o)))]=S.mk 78 [(0,P.d (D.sl 7 (List.map aV au))),(1,P.d (D.sl 8 (List.map bK l4))),(5,P.sl 0 0 (List.length aP)),(6,P.d (D.int IntKind.i64 aH)),(7,P.d (D.int IntKind.i64 (0:Int)))] [(0,En.mk 0 none (Obj.arr 104 false (List.map bK aP)))]/\(((0:Int)<=aH/\List.length l4<=1000)/\List.length au<=1000000/\List.length aP<=999/\(∀(g:ak),g∈au->ct g=true)/\List.Nodup (List.map (λ(x:ak)=>ak.s x) au))/\ ∀(o':List Pl),o'=aP++Ea au l4[Int.toNat aH]->bif decide ((-9223372036854775808:Int)<=aH+(1:Int)/\aH+(1:Int)<=(9223372036854775807:Int)) then ae (PX.normal,S.mk 78 [(0,P.d (D.sl 7 (List.map aV au))),(1,P.d (D.sl 8 (List.map bK l4))),(5,P.sl 0 0 (List.length o')),(6,P.d (D.int IntKind.i64 (aH+(1:Int))))] [(0,En.mk 0 none (Obj.arr 104 false (List.map bK o')))]) else False else ae (PX.exit 0,S.mk 78 [(5,P.sl 0 0 (List.length o))] [(0,En.mk 0 none (Obj.arr 104 false (List.map bK o)))]))=(aG [] [(6,ah (aO 54 6) qd4)] 54 3 (md3 l p o i)) ae:=by kernel_rfl
def qd5:S->K (PX×S):=λs ae=> ∃(l:List ak) (p:List Pl),s=md3 l p [] 0/\(p.length<=1000/\l.length<=1000000/\(∀g∈l,ct g=true)/\(l.map (·.s)).Nodup)/\ ∀o,o=Hp l p->ae (.exit 0,⟨78,[(5,.sl 0 0 o.length)],[(0,⟨0,none,pT false o⟩)]⟩)
def ZaK(au:List ak):Prop:= ∀(g:ak),g∈au->ct g=true
def ZaL(l4:List Pl)(au:List ak):Prop:=jU l4<=1000/\mB au/\ZaK au/\List.Nodup (List.map (λ(x:ak)=>ak.s x) au)
def ZaJ(l:List ak)(p:List Pl):S:=S.mk 78 (gj l::Eg p::SZ) [(0,zC)]
theorem qiK(l:List ak)(p:List Pl)(ae:P×List (Nat×En)->Prop):(∃(au:List ak) (l4:List Pl),ZaJ l p=ZaJ au l4/\ZaL l4 au/\ ∀(o:List Pl),o=Hp au l4->ae (ti o,Hm o))=(aK [] [(3,ah (aO 54 3) qd5)] 54 [bT l,eH p] []) ae:=by kernel_rfl
def TJ:br:=λps R ae=> ∃l p,ps=[bT l,eH p]/\R=[]/\(p.length<=1000/\l.length<=1000000/\(∀g∈l,ct g=true)/\(l.map (·.s)).Nodup)/\ ∀o,o=Hp l p->ae (.sl 0 0 o.length,[(0,⟨0,none,pT false o⟩)])
abbrev ofR(m:List ak)(o:List az)(nh nl:Nat)(A P H L:List D):List (Nat×En):=[(0,⟨0,none,qC true m⟩),(1,⟨0,none,.box 69 [.sl 2 0 0,.sl 3 0 0,.sl 4 0 0,.sl 5 0 0,.sl 6 0 0]⟩),(2,⟨0,none,l0 false []⟩),(3,⟨0,none,pT false []⟩),(4,⟨0,none,qgo false []⟩),(5,⟨0,none,qgo false []⟩),(6,⟨0,none,.arr 72 false []⟩),(7,⟨0,none,.box 69 [.sl 8 0 o.length,.sl 9 0 0,.sl 10 0 nh,.sl 11 0 nl,.sl 12 0 0]⟩),(8,⟨0,none,l0 false o⟩),(9,⟨0,none,pT false []⟩),(10,⟨0,none,.arr 106 false H⟩),(11,⟨0,none,.arr 106 false L⟩),(12,⟨0,none,.arr 72 false []⟩),(13,⟨0,none,.arr 50 false A⟩),(14,⟨0,none,.arr 104 false P⟩)]
abbrev of7(m:List ak)(o:List az)(na np nh nl:Nat)(A P H L:List D)(i:Int):S:=⟨140,[(0,.sl 0 0 m.length),(2,.ref 1 0 0),(3,.ref 7 0 0),(4,.sl 13 0 na),(5,.sl 14 0 np),(6,iD i)],ofR m o nh nl A P H L⟩
abbrev TK(m:List ak)(o:List az)(na np nh nl:Nat)(A P H L:List D)(i:Int)(on:Bool)(k:Int):S:=⟨140,[(0,.sl 0 0 m.length),(2,.ref 1 0 0),(3,.ref 7 0 0),(4,.sl 13 0 na),(5,.sl 14 0 np),(6,iD i),(7,.d (.bool on)),(8,iD k)],ofR m o nh nl A P H L⟩
abbrev qd6(m:List ak)(o:List az)(y:aX)(na np nh nl:Nat)(A P H L:List D)(i:Int)(on:Bool)(k j:Int):S:=⟨140,[(0,.sl 0 0 m.length),(2,.ref 1 0 0),(3,.ref 7 0 0),(4,.sl 13 0 na),(5,.sl 14 0 np),(6,iD i),(7,.d (.bool on)),(8,iD k),(9,.ref 15 0 0),(10,iD j)],ofR m o nh nl A P H L++[(15,⟨0,none,qgJ y⟩)]⟩
def TL:Nat×En:=(12,Vx)
def YY(H:List D):Nat×En:=(10,bP H)
def NV:Nat×En:=(9,zC)
def NW(o:List az):Nat×En:=(8,oI o)
def YZ:List P:=[P.sl 12 0 0]
def Y0:P:=P.sl 9 0 0
def Zb5(o:List az)(nh:Nat)(nl:Nat):Nat×En:=(7,En.mk 0 none (Obj.box (69:TypeId) (P.sl 8 0 (eu o)::Y0::P.sl 10 0 nh::P.sl 11 0 nl::YZ)))
def NX:Nat×En:=(6,Vx)
def Hv:En:=En.mk 0 none (Obj.arr (106:TypeId) false [])
def NY:Nat×En:=(5,Hv)
def NZ:Nat×En:=(4,Hv)
def N0:Nat×En:=(3,zC)
def Aw:Nat×En:=(2,wc)
def N1:Nat×En:=(1,En.mk 0 none (Obj.box (69:TypeId) [P.sl 2 0 0,P.sl 3 0 0,P.sl 4 0 0,P.sl 5 0 0,P.sl 6 0 0]))
def N2(m:List ak):Nat×En:=(0,En.mk 0 none (Obj.arr (34:TypeId) true (cW m)))
def TM(m:List ak)(o:List az)(nh:Nat)(nl:Nat)(H:List D)(L:List D)(A:List D)(P:List D):List (Nat×En):=[N2 m,N1,Aw,N0,NZ,NY,NX,Zb5 o nh nl,NW o,NV,YY H,(11,bP L),TL,(13,Ee A),(14,Ed P)]
def Zb4(A:List D)(P:List D)(y:aX):List (Nat×En):=[TL,(13,Ee A),(14,Ed P),(15,VC y)]
def N3(np:Nat):Nat×P:=(5,P.sl 14 0 np)
def N4(na:Nat):Nat×P:=(4,P.sl 13 0 na)
def Hw:Nat×P:=(3,P.ref 7 0 0)
def Hx:Nat×P:=(2,jE)
theorem TN(m:List ak)(o:List az)(y:aX)(na np nh nl:Nat)(A P H L:List D)(i:Int)(on:Bool)(k j:Int)(ae:PX×S->Prop):(bif decide (j<nj y) then bif on then bif decide ((0:Int)<=j/\j<nj y) then bif cD PR (30:TypeId) (Z9v y j) then bif y9 nl L&&aM (nl+List.length (VD y j)) 40 then bif Zj j then ae (PX.normal,S.mk 140 [tI m,Hx,Hw,N4 na,N3 np,ZK i,vA on,vB k,(9,Pi.P.ref 15 0 0),(10,Pi.P.d (Zn j))] (N2 m::N1::Aw::N0::NZ::NY::NX::(7,En.mk 0 none (Obj.box (69:TypeId) (Pi.P.sl 8 0 (eu o)::Y0::Pi.P.sl 10 0 nh::Pi.P.sl 11 0 (nl+List.length (VD y j))::YZ)))::NW o::NV::YY H::(11,En.mk 0 none (Obj.arr (106:TypeId) false (List.take nl L++VD y j)))::Zb4 A P y)) else False else False else False else False else ae (PX.exit 4,S.mk 140 (tI m::Hx::Hw::N4 na::N3 np::ZK i::vA on::NL k) (TM m o nh nl H L A P)) else ae (PX.exit 4,S.mk 140 (tI m::Hx::Hw::N4 na::N3 np::ZK i::vA on::NL k) (TM m o nh nl H L A P)))=(aG [] [] 32 20 (qd6 m o y na np nh nl A P H L i on k j)) ae:=by kernel_rfl
def TO:S->K (PX×S):=λs ae=> ∃m o y na np nh nl A P H L i on k,s=qd6 m o y na np nh nl A P H L i on k 0/\(y.ca.length<=200/\nl=L.length/\nl<=100000000000)/\ ∀bt L',cS on y nl L bt L'->ae (.exit 4,TK m o na np nh bt A P H L' i on k)
def Zbc(i:Int)(on:Bool)(k:Int):List (Nat×P):=[ZK i,vA on,vB k,(9,P.ref 15 0 0),(10,P.d Z7)]
def Zbi(bZ:List ak)(bk:Nat)(bm:Nat)(aH:Int)(aN:Bool)(bS:Int):List (Nat×P):=tI bZ::Hx::Hw::N4 bk::N3 bm::Zbc aH aN bS
def Zbj(bZ:List ak)(bk:Nat)(bm:Nat)(aH:Int)(aN:Bool)(bS:Int)(aP:List az)(bn:Nat)(aU:Nat)(dp:List D)(cg:List D)(dm:List D)(dn:List D)(y:aX):S:=S.mk 140 (Zbi bZ bk bm aH aN bS) (N2 bZ::N1::Aw::N0::NZ::NY::NX::Zb5 aP bn aU::NW aP::NV::YY dp::(11,bP cg)::Zb4 dm dn y)
def Zb9(m:List ak)(i:Int)(k:Int):D:=D.int .i64 (D.aj (D.ar (lA m i k) 3))
def Zb8(m:List ak)(i:Int)(k:Int):D:=D.int .i64 (D.aj (D.ar (lA m i k) 2))
def Zb7(m:List ak)(i:Int)(k:Int):D:=D.int .i64 (D.aj (D.ar (lA m i k) 1))
def Zbg(m:List ak)(i:Int)(k:Int):List (Nat×En):=[(15,En.mk 0 none (Obj.box (54:TypeId) [P.d (D.int .i64 (Hs m i k)),P.d (Zb7 m i k),P.d (Zb8 m i k),P.d (Zb9 m i k),P.d (D.int .i64 (D.aj (D.ar (lA m i k) 4))),P.d (D.int .i64 (D.aj (D.ar (lA m i k) 5))),P.d (D.int .i64 (D.aj (D.ar (lA m i k) 6))),P.d (D.str (D.eJ (D.ar (lA m i k) 7))),P.d (D.bool (D.e9 (D.ar (lA m i k) 8))),P.d (D.sl 2 (D.fa (D.ar (lA m i k) 9))),P.d (D.int .i64 (D.aj (D.ar (lA m i k) 10))),P.d (D.int .i64 (D.aj (D.ar (lA m i k) 11))),P.d (D.int .i64 (D.aj (D.ar (lA m i k) 12))),P.d (D.int .i64 (D.aj (D.ar (lA m i k) 13))),P.d (D.int .i64 (D.aj (D.ar (lA m i k) 14))),P.d (D.int .i64 (D.aj (D.ar (lA m i k) 15))),P.d (D.str (D.eJ (D.ar (lA m i k) 16))),P.d (D.sl 3 (D.fa (D.ar (lA m i k) 17)))]))]
def Zbm(m:List ak)(na:Nat)(np:Nat)(i:Int)(on:Bool)(k:Int)(o:List az)(nh:Nat)(nl:Nat)(H:List D)(L:List D)(A:List D)(P:List D)(ae:PX×S->Prop):Prop:= ∃(bZ:List ak) (aP:List az) (y:aX) (bk:Nat) (bm:Nat) (bn:Nat) (aU:Nat) (dm:List D) (dn:List D) (dp:List D) (cg:List D) (aH:Int) (aN:Bool) (bS:Int),S.mk 140 (Zbi m na np i on k) (N2 m::N1::Aw::N0::NZ::NY::NX::Zb5 o nh nl::NW o::NV::YY H::(11,bP L)::TL::(13,Ee A)::(14,Ed P)::Zbg m i k)=Zbj bZ bk bm aH aN bS aP bn aU dp cg dm dn y/\q9 y aU cg/\ ∀(bt:Nat) (L':List D),cS aN y aU cg bt L'->bif Zj bS then ae (PX.normal,S.mk 140 (tI bZ::Hx::Hw::N4 bk::N3 bm::ZK aH::vA aN::qG bS) (TM bZ aP bn bt dp L' dm dn)) else False
def Zbb(m:List ak)(i:Int)(k:Int):List D:=[D.agg [Zb7 m i k,Zb8 m i k,Zb9 m i k,qj m i,qi m i]]
def Zbf(nh:Nat)(H:List D)(m:List ak)(i:Int)(k:Int):Nat×En:=(10,En.mk 0 none (Obj.arr (106:TypeId) false (List.take nh H++Zbb m i k)))
def Zbe(o:List az)(nh:Nat)(m:List ak)(i:Int)(k:Int)(nl:Nat):Nat×En:=(7,En.mk 0 none (Obj.box (69:TypeId) (P.sl 8 0 (eu o)::Y0::P.sl 10 0 (nh+List.length (Zbb m i k))::P.sl 11 0 nl::YZ)))
noncomputable def Zbn(on:Bool)(m:List ak)(i:Int)(k:Int)(nh:Nat)(H:List D)(na:Nat)(np:Nat)(o:List az)(nl:Nat)(L:List D)(A:List D)(P:List D)(ae:PX×S->Prop):Prop:=bif on then bif Hs m i k !=(2:Int) then bif vY i m then bif tJ i m then bif eM m i then bif y9 nh H&&aM (nh+List.length (Zbb m i k)) 40 then∃(bZ:List ak) (aP:List az) (y:aX) (bk:Nat) (bm:Nat) (bn:Nat) (aU:Nat) (dm:List D) (dn:List D) (dp:List D) (cg:List D) (aH:Int) (aN:Bool) (bS:Int),S.mk 140 (Zbi m na np i on k) (N2 m::N1::Aw::N0::NZ::NY::NX::Zbe o nh m i k nl::NW o::NV::Zbf nh H m i k::(11,bP L)::TL::(13,Ee A)::(14,Ed P)::Zbg m i k)=Zbj bZ bk bm aH aN bS aP bn aU dp cg dm dn y/\q9 y aU cg/\ ∀(bt:Nat) (L':List D),cS aN y aU cg bt L'->bif Zj bS then ae (PX.normal,S.mk 140 (tI bZ::Hx::Hw::N4 bk::N3 bm::ZK aH::vA aN::qG bS) (TM bZ aP bn bt dp L' dm dn)) else False else False else False else False else False else Zbm m na np i on k o nh nl H L A P ae else Zbm m na np i on k o nh nl H L A P ae
def Zba(m:List ak)(i:Int)(k:Int):List D:=[D.agg [Zb7 m i k,Zb8 m i k,Zb9 m i k,D.int .i64 (D.aj (D.ar (lA m i k) 4)),D.int .i64 (D.aj (D.ar (lA m i k) 5)),D.int .i64 (D.aj (D.ar (lA m i k) 6)),D.str (D.eJ (D.ar (lA m i k) 7)),D.bool (D.e9 (D.ar (lA m i k) 8))]]
def Zbh(L:List D)(na:Nat)(A:List D)(m:List ak)(i:Int)(k:Int)(np:Nat)(P:List D):List (Nat×En):=(11,bP L)::TL::(13,En.mk 0 none (Obj.arr (50:TypeId) false (List.take na A++[D.agg (qj m i::qi m i::ZE k)])))::(14,En.mk 0 none (Obj.arr (104:TypeId) false (List.take np P++Zba m i k)))::Zbg m i k
def Zbd(m:List ak)(na:Nat)(i:Int)(k:Int)(np:Nat)(on:Bool):List (Nat×P):=tI m::Hx::Hw::(4,P.sl 13 0 (na+List.length [D.agg (qj m i::qi m i::ZE k)]))::(5,P.sl 14 0 (np+List.length (Zba m i k)))::Zbc i on k
def Zbk(m:List ak)(na:Nat)(i:Int)(k:Int)(np:Nat)(on:Bool)(o:List az)(nh:Nat)(nl:Nat)(H:List D)(L:List D)(A:List D)(P:List D)(ae:PX×S->Prop):Prop:= ∃(bZ:List ak) (aP:List az) (y:aX) (bk:Nat) (bm:Nat) (bn:Nat) (aU:Nat) (dm:List D) (dn:List D) (dp:List D) (cg:List D) (aH:Int) (aN:Bool) (bS:Int),S.mk 140 (Zbd m na i k np on) (N2 m::N1::Aw::N0::NZ::NY::NX::Zb5 o nh nl::NW o::NV::YY H::Zbh L na A m i k np P)=Zbj bZ bk bm aH aN bS aP bn aU dp cg dm dn y/\q9 y aU cg/\ ∀(bt:Nat) (L':List D),cS aN y aU cg bt L'->bif Zj bS then ae (PX.normal,S.mk 140 (tI bZ::Hx::Hw::N4 bk::N3 bm::ZK aH::vA aN::qG bS) (TM bZ aP bn bt dp L' dm dn)) else False
noncomputable def Zbl(i:Int)(m:List ak)(na:Nat)(A:List D)(k:Int)(np:Nat)(P:List D)(on:Bool)(nh:Nat)(H:List D)(o:List az)(nl:Nat)(L:List D)(ae:PX×S->Prop):Prop:=bif vY i m then bif tJ i m then bif eM m i then bif y9 na A&&aM (na+List.length [D.agg (qj m i::qi m i::ZE k)]) 24 then bif y9 np P&&aM (np+List.length (Zba m i k)) 72 then bif on then bif Hs m i k !=(2:Int) then bif vY i m then bif tJ i m then bif eM m i then bif y9 nh H&&aM (nh+List.length (Zbb m i k)) 40 then∃(bZ:List ak) (aP:List az) (y:aX) (bk:Nat) (bm:Nat) (bn:Nat) (aU:Nat) (dm:List D) (dn:List D) (dp:List D) (cg:List D) (aH:Int) (aN:Bool) (bS:Int),S.mk 140 (Zbd m na i k np on) (N2 m::N1::Aw::N0::NZ::NY::NX::Zbe o nh m i k nl::NW o::NV::Zbf nh H m i k::Zbh L na A m i k np P)=Zbj bZ bk bm aH aN bS aP bn aU dp cg dm dn y/\q9 y aU cg/\ ∀(bt:Nat) (L':List D),cS aN y aU cg bt L'->bif Zj bS then ae (PX.normal,S.mk 140 (tI bZ::Hx::Hw::N4 bk::N3 bm::ZK aH::vA aN::qG bS) (TM bZ aP bn bt dp L' dm dn)) else False else False else False else False else False else Zbk m na i k np on o nh nl H L A P ae else Zbk m na i k np on o nh nl H L A P ae else False else False else False else False else False
theorem TP(m:List ak)(o:List az)(na np nh nl:Nat)(A P H L:List D)(i:Int)(on:Bool)(k:Int)(ae:PX×S->Prop):(bif vY i m then bif tJ i m then bif eM m i then bif decide (k<NU m i) then bif vY i m then bif tJ i m then bif eM m i then bif Hu k m i then bif Ht m i k then bif Hs m i k==(0:Int) then Zbl i m na A k np P on nh H o nl L ae else bif Hs m i k==(1:Int) then bif on then Zbl i m na A k np P on nh H o nl L ae else Zbn on m i k nh H na np o nl L A P ae else Zbn on m i k nh H na np o nl L A P ae else False else False else False else False else False else ae (PX.exit 2,S.mk 140 (tI m::Hx::Hw::N4 na::N3 np::JE i) (TM m o nh nl H L A P)) else False else False else False)=(aG [] [(20,ah (aO 32 20) TO)] 32 11 (TK m o na np nh nl A P H L i on k)) ae:=by kernel_rfl
def TQ:S->K (PX×S):=λs ae=> ∃(m:List ak) (o:List az) (na np nh nl:Nat) (A P H L:List D) (i:Int) (on:Bool) (t:Tl) (N:Nat) (hi:i.toNat<m.length),s=TK m o na np nh nl A P H L i on 0/\(ra t na np nh nl A P H L/\uz N t/\N<=300000000/\(0<=i/\m[i.toNat].ops.length<=200/\ ∀y∈m[i.toNat].ops,y.ca.length<=200))/\
 ∀oJ oK oL bt A' P' H' L',ra (Gq on m[i.toNat].s m[i.toNat].ops t) oJ oK oL bt A' P' H' L'->ae (.exit 2,of7 m o oJ oK oL bt A' P' H' L' i)
theorem qbk(m:List ak)(o:List az)(na np nh nl:Nat)(A P H L:List D)(i:Int)(ae:PX×S->Prop):(bif decide (i<(↑(List.length m):Int)) then bif decide ((0:Int)<=i/\i<(↑(List.length m):Int)) then bif decide (Int.toNat i<List.length (List.map aV m)) then bif cD PR (34:TypeId) (D.nth (List.map aV m) (Int.toNat i)) then∃(l:List az),∃(x:az),[Pi.P.sl 0 0 (List.length o),Pi.P.d (D.agg [D.int IntKind.i64 (D.aj (D.ar (D.nth (List.map aV m) (Int.toNat i)) 0)),D.int IntKind.i64 (D.aj (D.ar (D.nth (List.map aV m) (Int.toNat i)) 1))])]=[Pi.P.sl 0 0 (List.length l),Pi.P.d (D.agg [D.int IntKind.i64 (Prod.fst x),D.int IntKind.i64 (Prod.snd x)])]/\[(0,En.mk 0 (some 0) (Obj.arr 30 false (List.map bh o)))]=[(0,En.mk 0 (some 0) (Obj.arr 30 false (List.map bh l)))]/\List.length l<=1000000/\ ∀(b:Bool),b=decide (x∈l)-> ∃(bZ:List ak),∃(aP:List az),∃(bk:Nat),∃(bm:Nat),∃(bn:Nat),∃(aU:Nat),∃(dm:List D),∃(dn:List D),∃(dp:List D),∃(cg:List D),∃(aH:Int),∃(on:Bool),∃(t:Tl),∃(N:Nat),∃(hi:Int.toNat aH<List.length bZ),S.mk 140 [(0,Pi.P.sl 0 0 (List.length m)),(2,Pi.P.ref 1 0 0),(3,Pi.P.ref 7 0 0),(4,Pi.P.sl 13 0 na),(5,Pi.P.sl 14 0 np),(6,Pi.P.d (D.int IntKind.i64 i)),(7,Pi.P.d (D.bool b)),(8,Pi.P.d (D.int IntKind.i64 (0:Int)))] [(0,En.mk 0 none (Obj.arr 34 true (List.map aV m))),(1,En.mk 0 none (Obj.box 69 [Pi.P.sl 2 0 0,Pi.P.sl 3 0 0,Pi.P.sl 4 0 0,Pi.P.sl 5 0 0,Pi.P.sl 6 0 0])),(2,En.mk 0 none (Obj.arr 30 false [])),(3,En.mk 0 none (Obj.arr 104 false [])),(4,En.mk 0 none (Obj.arr 106 false [])),(5,En.mk 0 none (Obj.arr 106 false [])),(6,En.mk 0 none (Obj.arr 72 false [])),(7,En.mk 0 none (Obj.box 69 [Pi.P.sl 8 0 (List.length o),Pi.P.sl 9 0 0,Pi.P.sl 10 0 nh,Pi.P.sl 11 0 nl,Pi.P.sl 12 0 0])),(8,En.mk 0 none (Obj.arr 30 false (List.map bh l))),(9,En.mk 0 none (Obj.arr 104 false [])),(10,En.mk 0 none (Obj.arr 106 false H)),(11,En.mk 0 none (Obj.arr 106 false L)),(12,En.mk 0 none (Obj.arr 72 false [])),(13,En.mk 0 none (Obj.arr 50 false A)),(14,En.mk 0 none (Obj.arr 104 false P))]=S.mk 140 [(0,Pi.P.sl 0 0 (List.length bZ)),(2,Pi.P.ref 1 0 0),(3,Pi.P.ref 7 0 0),(4,Pi.P.sl 13 0 bk),(5,Pi.P.sl 14 0 bm),(6,Pi.P.d (D.int IntKind.i64 aH)),(7,Pi.P.d (D.bool on)),(8,Pi.P.d (D.int IntKind.i64 (0:Int)))] [(0,En.mk 0 none (Obj.arr 34 true (List.map aV bZ))),(1,En.mk 0 none (Obj.box 69 [Pi.P.sl 2 0 0,Pi.P.sl 3 0 0,Pi.P.sl 4 0 0,Pi.P.sl 5 0 0,Pi.P.sl 6 0 0])),(2,En.mk 0 none (Obj.arr 30 false [])),(3,En.mk 0 none (Obj.arr 104 false [])),(4,En.mk 0 none (Obj.arr 106 false [])),(5,En.mk 0 none (Obj.arr 106 false [])),(6,En.mk 0 none (Obj.arr 72 false [])),(7,En.mk 0 none (Obj.box 69 [Pi.P.sl 8 0 (List.length aP),Pi.P.sl 9 0 0,Pi.P.sl 10 0 bn,Pi.P.sl 11 0 aU,Pi.P.sl 12 0 0])),(8,En.mk 0 none (Obj.arr 30 false (List.map bh aP))),(9,En.mk 0 none (Obj.arr 104 false [])),(10,En.mk 0 none (Obj.arr 106 false dp)),(11,En.mk 0 none (Obj.arr 106 false cg)),(12,En.mk 0 none (Obj.arr 72 false [])),(13,En.mk 0 none (Obj.arr 50 false dm)),(14,En.mk 0 none (Obj.arr 104 false dn))]/\(ra t bk bm bn aU dm dn dp cg/\uz N t/\N<=300000000/\(0:Int)<=aH/\List.length (ak.ops bZ[Int.toNat aH])<=200/\ ∀(y:aX),y∈ak.ops bZ[Int.toNat aH]->List.length (aX.ca y)<=200)/\ ∀(oJ oK oL bt:Nat) (A' P' H' L':List D),ra (Gq on (ak.s bZ[Int.toNat aH]) (ak.ops bZ[Int.toNat aH]) t) oJ oK oL bt A' P' H' L'->bif decide ((-9223372036854775808:Int)<=aH+(1:Int)/\aH+(1:Int)<=(9223372036854775807:Int)) then ae (PX.normal,S.mk 140 [(0,Pi.P.sl 0 0 (List.length bZ)),(2,Pi.P.ref 1 0 0),(3,Pi.P.ref 7 0 0),(4,Pi.P.sl 13 0 oJ),(5,Pi.P.sl 14 0 oK),(6,Pi.P.d (D.int IntKind.i64 (aH+(1:Int))))] [(0,En.mk 0 none (Obj.arr 34 true (List.map aV bZ))),(1,En.mk 0 none (Obj.box 69 [Pi.P.sl 2 0 0,Pi.P.sl 3 0 0,Pi.P.sl 4 0 0,Pi.P.sl 5 0 0,Pi.P.sl 6 0 0])),(2,En.mk 0 none (Obj.arr 30 false [])),(3,En.mk 0 none (Obj.arr 104 false [])),(4,En.mk 0 none (Obj.arr 106 false [])),(5,En.mk 0 none (Obj.arr 106 false [])),(6,En.mk 0 none (Obj.arr 72 false [])),(7,En.mk 0 none (Obj.box 69 [Pi.P.sl 8 0 (List.length aP),Pi.P.sl 9 0 0,Pi.P.sl 10 0 oL,Pi.P.sl 11 0 bt,Pi.P.sl 12 0 0])),(8,En.mk 0 none (Obj.arr 30 false (List.map bh aP))),(9,En.mk 0 none (Obj.arr 104 false [])),(10,En.mk 0 none (Obj.arr 106 false H')),(11,En.mk 0 none (Obj.arr 106 false L')),(12,En.mk 0 none (Obj.arr 72 false [])),(13,En.mk 0 none (Obj.arr 50 false A')),(14,En.mk 0 none (Obj.arr 104 false P'))]) else False else False else False else False else ae (PX.exit 0,S.mk 140 [(0,Pi.P.sl 0 0 (List.length m)),(2,Pi.P.ref 1 0 0),(3,Pi.P.ref 7 0 0),(4,Pi.P.sl 13 0 na),(5,Pi.P.sl 14 0 np)] [(0,En.mk 0 none (Obj.arr 34 true (List.map aV m))),(1,En.mk 0 none (Obj.box 69 [Pi.P.sl 2 0 0,Pi.P.sl 3 0 0,Pi.P.sl 4 0 0,Pi.P.sl 5 0 0,Pi.P.sl 6 0 0])),(2,En.mk 0 none (Obj.arr 30 false [])),(3,En.mk 0 none (Obj.arr 104 false [])),(4,En.mk 0 none (Obj.arr 106 false [])),(5,En.mk 0 none (Obj.arr 106 false [])),(6,En.mk 0 none (Obj.arr 72 false [])),(7,En.mk 0 none (Obj.box 69 [Pi.P.sl 8 0 (List.length o),Pi.P.sl 9 0 0,Pi.P.sl 10 0 nh,Pi.P.sl 11 0 nl,Pi.P.sl 12 0 0])),(8,En.mk 0 none (Obj.arr 30 false (List.map bh o))),(9,En.mk 0 none (Obj.arr 104 false [])),(10,En.mk 0 none (Obj.arr 106 false H)),(11,En.mk 0 none (Obj.arr 106 false L)),(12,En.mk 0 none (Obj.arr 72 false [])),(13,En.mk 0 none (Obj.arr 50 false A)),(14,En.mk 0 none (Obj.arr 104 false P))]))=(aG [(42,GA)] [(11,ah (aO 32 11) TQ)] 32 7 (of7 m o na np nh nl A P H L i)) ae:=by kernel_rfl
abbrev OfB:=Nat×Nat×Nat×Nat×List D×List D×List D×List D
structure OfP where
 m:List ak
 o:List az
 y:aX
 na:Nat
 np:Nat
 nh:Nat
 A:List D
 P:List D
 H:List D
 i:Int
 on:Bool
 k:Int
 L:List D
structure OfQ where
 m:List ak
 o:List az
 g:ak
 i:Int
 on:Bool
 t:Tl
 N:Nat
theorem TR{x:Pl}{g:ak}{k:Nat}(h:k<g.ops.length):(g.ops.take (k+1)).flatMap (Au x)=(g.ops.take k).flatMap (Au x)++Au x g.ops[k]:=by rw[zag h,zbG];simp
theorem TS{x:Pl}{l:List ak}{j:Nat}(h:j<l.length):Ea (l.take (j+1)) x=Ea (l.take j) x++mdG x l[j]:=by unfold Ea;rw[zag h,zbG];simp
theorem TT{l:List ak}{p:List Pl}{i:Nat}(h:i<p.length):Hp l (p.take (i+1))=Hp l (p.take i)++Ea l p[i]:=by unfold Hp;rw[zag h,zbG];simp
theorem LC(x:Pl): ∀l:List aX,(l.flatMap (Au x)).length<=l.length
 | []=>by simp
 |a::r=>by have h1:=LC x r;have h2:=Ls x a;rw[zcr,zan,zap];omega
section
variable{X:XF}
theorem Y1:LD X 54 9 (ah (aO 54 9) qd3):=LD.idx (H:=[]) (hk:=[]) (by kernel_rfl) (by kernel_rfl) .nil .nil
 (A:=List ak×List Pl×List Pl×Int×Int×Pl×ak) (B:=List Pl) (λa o k=>md9 a.1 a.2.1 o a.2.2.2.1 a.2.2.2.2.1 k) (λa=>a.2.2.2.2.2.2.ops.length)
 (λa k o=>((0<=a.2.2.2.1/\a.2.2.2.1<a.2.1.length/\0<=a.2.2.2.2.1/\a.2.2.2.2.1<a.1.length)/\D.nth (a.2.1.map bK) a.2.2.2.1.toNat=bK a.2.2.2.2.2.1/\D.nth (a.1.map aV) a.2.2.2.2.1.toNat=aV a.2.2.2.2.2.2/\a.2.2.1.length<=1000/\a.2.2.2.2.2.2.ops.length<=200)/\o=a.2.2.1++(a.2.2.2.2.2.2.ops.take k).flatMap (Au a.2.2.2.2.2.1))
 (λa z=>z=(.exit 4,md6 a.1 a.2.1 (a.2.2.1++mdG a.2.2.2.2.2.1 a.2.2.2.2.2.2) a.2.2.2.1 a.2.2.2.2.1))
 (by
  rintro⟨l,p,o0,i,j,x,g⟩ o k ae h0 tG dQ ⟨⟨hb,hx,hg,lY,Ax⟩,ho⟩ hn bw;dsimp only at*
  (rw[<-qbh];delta iv OE Hm jU ti Zn qG Zt rX ZK lF Eg cW dq gj Za Z9 Zj ZaI Zg ij lA ou Ny Nz NA ZaH sb qF Gt Hs Ht NU Hu eM fH ko)
  rw[hx,hg];have u6:D.fa (D.ar (aV g) 6)=g.ops.map eI:=rfl;have e1:D.nth (g.ops.map eI) k.toNat=eI g.ops[k.toNat]:=aA _ _ _ dQ;have lM:=TR (x:=x) dQ;have hlen:=LC x (g.ops.take k.toNat);rw[zay] at hlen;have qjl:o.length<=1200:=by rw[ho,zan];omega
  rw[u6,e1];generalize g.ops[k.toNat]=y at*
  have u0:D.aj (D.ar (eI y) 0)=y.kind:=rfl;have v:(D.aj (D.ar (eI y) 1)==D.aj (D.ar (bK x) 0)&&(D.aj (D.ar (eI y) 2)==D.aj (D.ar (bK x) 1)&&true)&&(D.aj (D.ar (eI y) 3)==D.aj (D.ar (bK x) 2)&&true))=(y.node==x.1):=D1 y.node x.1;have KB:0<=j/\j<((l.map aV).length:Int):=by rw[zaa];exact⟨hb.2.2.1,hb.2.2.2⟩
  have gf:0<=i/\i<((p.map bK).length:Int):=by rw[zaa];exact⟨hb.1,hb.2.1⟩
  have JM:0<=k/\k<((g.ops.map eI).length:Int):=by rw[zaa];exact⟨h0,tG⟩
  have p9:=gi g;have L6:=hZ x;have sB:=I9 y;rw[u0,v];refine ao KB (aq p9 (bM JM.2 (ao KB (aq p9 (ao JM (aq sB ?_))))));have b7: ¬(y.kind=0/\y.node=x.1)->o0++(g.ops.take (k.toNat+1)).flatMap (Au x)=o:=λh=>by
   rw[lM,ho];have:Au x y=[]:=by unfold Au;rw[zam h]
   rw[this,zbi]
  refine ay (λhk=>ao KB (aq p9 (ao JM (aq sB (ao gf (aq L6 (ay (λAe=> ?_) λAe=>ao (by omega) (hn o ⟨⟨hb,hx,hg,lY,Ax⟩,(b7 (λhh=>by rw[hh.2] at Ae;simp at Ae)).symm⟩)))))))) λhk=>ao (by omega) (hn o ⟨⟨hb,hx,hg,lY,Ax⟩,(b7 (λhh=>by rw[hh.1] at hk;simp at hk)).symm⟩);have ec:o0++(g.ops.take (k.toNat+1)).flatMap (Au x)=o++[(x.1,x.2.1,x.2.2.1,y.dir)]:=by
   rw[lM,ho,zaZ];have:Au x y=[(x.1,x.2.1,x.2.2.1,y.dir)]:=by unfold Au;rw[zao ⟨by simpa using hk,by simpa using Ae⟩]
   rw[this]
  have t1:List.take o.length (o.map bK)++[bK (x.1,x.2.1,x.2.2.1,y.dir)]=(o++[(x.1,x.2.1,x.2.2.1,y.dir)]).map bK:=cv bK o _;have hy:=hn (o++[(x.1,x.2.1,x.2.2.1,y.dir)]) ⟨⟨hb,hx,hg,lY,Ax⟩,ec.symm⟩;simp only[md9,pT,zan] at hy;rw[<-t1] at hy;refine ao gf (aq L6 (ao KB (aq p9 (ao JM (aq sB (aq (ep rfl (by rw[zaa]) (by omega) (by decide)) (ao (by omega) ?_)))))));exact hy)
 (by
  rintro⟨l,p,o0,i,j,x,g⟩ o k ae hk ⟨⟨hb,hx,hg,lY,Ax⟩,ho⟩ bw;dsimp only at*
  (rw[<-qbh];delta iv OE Hm jU ti Zn qG Zt rX ZK lF Eg cW dq gj Za Z9 Zj ZaI Zg ij lA ou Ny Nz NA ZaH sb qF Gt Hs Ht NU Hu eM fH ko)
  rw[hx,hg];have u6:D.fa (D.ar (aV g) 6)=g.ops.map eI:=rfl;rw[u6];have KB:0<=j/\j<((l.map aV).length:Int):=by rw[zaa];exact⟨hb.2.2.1,hb.2.2.2⟩
  refine ao KB (aq (gi g) (mq (by rw[zaa];omega) (bw _ (λh=>by cases h) ?_)));rw[ho,zak];rfl)
 (by rintro s ae ⟨l,p,o,i,j,hi,hj,rfl,⟨h1,h2,h3,h4⟩,hp⟩;refine⟨(l,p,o,i,j,p[i.toNat],l[j.toNat]),o,rfl,⟨⟨⟨h1.1,by show i<(p.length:Int);omega,h1.2.1,by show j<(l.length:Int);omega⟩,aA _ _ _ hi,aA _ _ _ hj,h3,h4⟩,by simp⟩,?_⟩;rintro z rfl;exact hp _ rfl)
theorem Y2:LD X 54 6 (ah (aO 54 6) qd4):=LD.idx (H:=[]) (hk:=[(9,ah (aO 54 9) qd3)]) (by kernel_rfl) (by kernel_rfl) .nil (.cons Y1 .nil)
 (A:=List ak×List Pl×List Pl×Int×Pl) (B:=List Pl) (λa o j=>md6 a.1 a.2.1 o a.2.2.2.1 j) (λa=>a.1.length)
 (λa j o=>((0<=a.2.2.2.1/\a.2.1.length<=1000)/\(∃hi:a.2.2.2.1.toNat<a.2.1.length,a.2.1[a.2.2.2.1.toNat]=a.2.2.2.2)/\a.1.length<=1000000/\a.2.2.1.length<=999/\(∀g∈a.1,ct g=true)/\(a.1.map (·.s)).Nodup)/\o=a.2.2.1++Ea (a.1.take j) a.2.2.2.2)
 (λa z=>z=(.exit 2,md3 a.1 a.2.1 (a.2.2.1++Ea a.1 a.2.2.2.2) a.2.2.2.1))
 (by
  rintro⟨l,p,o0,i,x⟩ o j ae h0 EC BD ⟨⟨h1,⟨hi,hx⟩,h3,h4,h5,h6⟩,ho⟩ hn bw;dsimp only at*
  rw[<-qbi];have lM:=TS (x:=x) BD;have h7:(Ea (l.take j.toNat) x).length<=1:=(Lu x (λg hg=>h5 g (zbq hg)) (h6.sublist ((zcX _ _).map _))).1;have lY:o.length<=1000:=by rw[ho,zan];omega
  refine bM (by rw[zaa];exact EC) ⟨l,p,o,i,j,hi,BD,rfl,⟨⟨h1.1,h0,h1.2⟩,h3,lY,tf (h5 _ (zas BD))⟩,λo' gb=>ao (by omega) (hn o' ⟨⟨h1,⟨hi,hx⟩,h3,h4,h5,h6⟩,?_⟩)⟩;rw[gb,ho,lM,hx,zaZ])
 (by
  rintro⟨l,p,o0,i,x⟩ o j ae hj ⟨hc,ho⟩ bw;dsimp only at*
  rw[<-qbi];refine mq (by rw[zaa];omega) (bw _ (λh=>by cases h) ?_);rw[ho,zak])
 (by rintro s ae ⟨l,p,o,i,hi,rfl,⟨h1,h2,h3,h4,h5⟩,hp⟩;refine⟨(l,p,o,i,p[i.toNat]),o,rfl,⟨⟨h1,⟨hi,rfl⟩,h2,h3,h4,h5⟩,by simp[Ea]⟩,?_⟩;rintro z rfl;exact hp _ rfl)
theorem Y3:LD X 54 3 (ah (aO 54 3) qd5):=LD.idx (H:=[]) (hk:=[(6,ah (aO 54 6) qd4)]) (by kernel_rfl) (by kernel_rfl) .nil (.cons Y2 .nil)
 (A:=List ak×List Pl) (B:=List Pl) (λa o i=>md3 a.1 a.2 o i) (λa=>a.2.length)
 (λa i o=>(a.2.length<=1000/\a.1.length<=1000000/\(∀g∈a.1,ct g=true)/\(a.1.map (·.s)).Nodup)/\o=Hp a.1 (a.2.take i))
 (λa z=>z=(.exit 0,⟨78,[(5,.sl 0 0 (Hp a.1 a.2).length)],[(0,⟨0,none,pT false (Hp a.1 a.2)⟩)]⟩))
 (by
  rintro⟨l,p⟩ o i ae h0 bQ bj ⟨⟨h1,h2,h3,h4⟩,ho⟩ hn bw;dsimp only at*
  rw[<-qbj];have lM:=TT (l:=l) bj;have h7:=DG h3 h4 (p.take i.toNat);rw[zay,<-ho] at h7;refine bM (by rw[zaa];exact bQ) ⟨l,p,o,i,bj,rfl,⟨⟨h0,h1⟩,h2,by omega,h3,h4⟩,λo' gb=>ao (by omega) (hn o' ⟨⟨h1,h2,h3,h4⟩,?_⟩)⟩;rw[gb,ho,lM])
 (by
  rintro⟨l,p⟩ o i ae hi ⟨hc,ho⟩ bw;dsimp only at*
  rw[<-qbj];refine mq (by rw[zaa];omega) (bw _ (λh=>by cases h) ?_);rw[ho,zak])
 (by rintro s ae ⟨l,p,rfl,hc,hp⟩;refine⟨(l,p),[],rfl,⟨hc,by simp[Hp]⟩,?_⟩;rintro z rfl;exact hp _ rfl)
theorem qd7:FD X 54 TJ:=FD.mk (H:=[]) (hk:=[(3,ah (aO 54 3) qd5)]) (by kernel_rfl) .nil (.cons Y3 .nil) (by
 intro ps R ae hh;obtain⟨l,p,rfl,rfl,hc,hp⟩:=hh
 (rw[<-qiK];delta iv OE Hm jU ti ZaK fu mB ZaL zC Z7 Jy ZQ SZ lF Eg cW dq gj ZaJ)
 exact⟨l,p,rfl,hc,λo ho=>hp o ho⟩)
theorem TU:LD X 32 20 (ah (aO 32 20) TO):=LD.idx (H:=[]) (hk:=[]) (by kernel_rfl) (by kernel_rfl) .nil .nil
 (A:=OfP) (B:=Nat×List D) (λa b j=>qd6 a.m a.o a.y a.na a.np a.nh b.1 a.A a.P a.H b.2 a.i a.on a.k j) (λa=>a.y.ca.length)
 (λa j b=>(a.y.ca.length<=200/\a.L.length<=100000000000)/\b.1=b.2.length/\b.2=a.L++(if a.on=true then(a.y.ca.take j).map (λs=>jv (a.y.node,s)) else []))
 (λa x=> ∃bt L',cS a.on a.y a.L.length a.L bt L'/\x=(.exit 4,TK a.m a.o a.na a.np a.nh bt a.A a.P a.H L' a.i a.on a.k))
 (by
  rintro a ⟨nl,L⟩ j ae h0 EC BD ⟨⟨hd,hL⟩,r7,JK⟩ hn ho;dsimp only at*
  (rw[<-TN];delta Ed Ee Vx TL bP YY zC NV eL oI NW YZ Y0 eu Zb5 NX Hv NY NZ N0 wc Aw N1 cW N2 TM Zt vB NL Rm vQ vR vS zp Ah zq Ai Aj lq zr zs zt zu zw uo uq ur vT VC Zb4 Zn gh vA ZK N3 N4 Hw jE Hx fu oH tI Za Z9 Zj Zg Z9v VD y9 nj)
  have e1:D.nth (a.y.ca.map bh) j.toNat=bh a.y.ca[j.toNat]:=aA _ _ _ BD;have lM:(a.y.ca.take (j.toNat+1))=a.y.ca.take j.toNat++[a.y.ca[j.toNat]]:=zag BD;rw[e1];generalize a.y.ca[j.toNat]=z at*
  have hLl:L.length<=a.L.length+200:=by
   rw[JK,zan];split
   ·rw[zaa,zay];omega
   simp
  have KB:j<((a.y.ca.map bh).length:Int):=by rw[zaa];exact EC
  refine bM KB (ay (λHr=>ao ⟨h0,KB⟩ (aq (jS _) (aq (ep r7 rfl (by omega) (by decide)) (ao (by omega) (hn (nl+1,List.take nl L++[jv (a.y.node,z)]) ⟨⟨hd,hL⟩,?_,?_⟩))))) λqdU=>ho _ (λh=>by cases h) ⟨nl,L,⟨r7,?_⟩,rfl⟩)
  ·simp[r7]
  ·rw[Hr,zao rfl] at JK⊢;rw[lM,r7,zak,JK,zaz,zaZ];rfl
  rw[qdU] at JK⊢;simpa using JK)
 (by
  rintro a ⟨nl,L⟩ j ae hj ⟨⟨hd,hL⟩,r7,JK⟩ ho;dsimp only at*
  (rw[<-TN];delta Ed Ee Vx TL bP YY zC NV eL oI NW YZ Y0 eu Zb5 NX Hv NY NZ N0 wc Aw N1 cW N2 TM Zt vB NL Rm vQ vR vS zp Ah zq Ai Aj lq zr zs zt zu zw uo uq ur vT VC Zb4 Zn gh vA ZK N3 N4 Hw jE Hx fu oH tI Za Z9 Zj Zg Z9v VD y9 nj)
  refine mq (by rw[zaa];omega) (ho _ (λh=>by cases h) ⟨nl,L,⟨r7,?_⟩,rfl⟩);rw[JK,zak];cases a.on
  ·rfl
  simp[GH,zb5])
 (by rintro s ae ⟨m,o,y,na,np,nh,nl,A,P,H,L,i,on,k,rfl,⟨h1,h2,h3⟩,hp⟩;refine⟨⟨m,o,y,na,np,nh,A,P,H,i,on,k,L⟩,(nl,L),rfl,⟨⟨h1,by rw[<-h2];exact h3⟩,h2,by simp⟩,?_⟩;rintro z ⟨bt,L',hg,rfl⟩;exact hp bt L' ⟨hg.1,hg.2⟩)
theorem TV:LD X 32 11 (ah (aO 32 11) TQ):=LD.idx (H:=[]) (hk:=[(20,ah (aO 32 20) TO)]) (by kernel_rfl) (by kernel_rfl) .nil (.cons TU .nil)
 (A:=OfQ) (B:=OfB) (λa b k=>TK a.m a.o b.1 b.2.1 b.2.2.1 b.2.2.2.1 b.2.2.2.2.1 b.2.2.2.2.2.1 b.2.2.2.2.2.2.1 b.2.2.2.2.2.2.2 a.i a.on k) (λa=>a.g.ops.length)
 (λa k b=>(uz a.N a.t/\a.N<=300000000/\(0<=a.i/\a.i<a.m.length/\D.nth (a.m.map aV) a.i.toNat=aV a.g)/\a.g.ops.length<=200/\ ∀y∈a.g.ops,y.ca.length<=200)/\ra (Gq a.on a.g.s (a.g.ops.take k) a.t) b.1 b.2.1 b.2.2.1 b.2.2.2.1 b.2.2.2.2.1 b.2.2.2.2.2.1 b.2.2.2.2.2.2.1 b.2.2.2.2.2.2.2)
 (λa x=> ∃oJ oK oL bt A' P' H' L',ra (Gq a.on a.g.s a.g.ops a.t) oJ oK oL bt A' P' H' L'/\x=(.exit 2,of7 a.m a.o oJ oK oL bt A' P' H' L' a.i))
 (by
  rintro⟨m,o,g,i,on,t,N⟩ ⟨na,np,nh,nl,A,P,H,L⟩ k ae h0 tG dQ ⟨hc,hR⟩ hn ho;dsimp only at*
  (rw[<-TP];delta Ed Ee Vx TL bP YY zC NV eL oI NW YZ Y0 eu Zb5 NX Hv NY NZ N0 wc Aw N1 cW N2 TM Zt ZK JE N3 N4 Hw jE Hx fu oH tI Zn qG gh vA Za Z9 Zj q9 Rm vQ vR vS zp Ah zq Ai Aj lq zr zs zt zu zw uo uq ur vT VC Zb4 Z7 vB Zbc Zbi Zbj Zg ij lA Zb9 Zb8 Zb7 Hs Zbg Zbm qi qj Zbb Zbf Zbe y9 eM fH tJ ot vY Zbn Zba ZE Zbh Zbd Zbk Zbl Ht NU Hu)
  have kq:=(hc.1.ops (on:=on) (s:=g.s) hc.2.2.2.2 k.toNat (by omega)).mono (m:=300000200) (by have:=hc.2.1;have:=hc.2.2.2.1;omega);rw[hc.2.2.1.2.2];have u6:D.fa (D.ar (aV g) 6)=g.ops.map eI:=rfl;have e1:D.nth (g.ops.map eI) k.toNat=eI g.ops[k.toNat]:=aA _ _ _ dQ;have kC:=yR (on:=on) (s:=g.s) (t:=t) dQ;have ie:=hc.2.2.2.2 _ (zas dQ);have r6:((k.toNat:Nat):Int)=k:=by omega
  rw[u6,e1];generalize g.ops[k.toNat]=y at kC ie⊢;generalize Gq on g.s (g.ops.take k.toNat) t=t1 at kC hR kq;have u0:D.aj (D.ar (eI y) 0)=y.kind:=rfl;have sB:=I9 y;have p9:=gi g;have gf:0<=i/\i<(m.length:Int):=⟨hc.2.2.1.1,hc.2.2.1.2.1⟩
  have NC:i.toNat<(m.map aV).length:=by rw[zaa];omega
  have JM:0<=k/\k<((g.ops.map eI).length:Int):=by rw[zaa];exact⟨h0,tG⟩
  simp only[u0];refine ao gf (ao NC (aq p9 (bM JM.2 (ao gf (ao NC (aq p9 (ao JM (aq sB ?_))))))));by_cases gn:y.kind=0
  ·rw[show(y.kind==0)=true by simp[gn],show(y.kind !=2)=true by simp[gn]];cases on with
   |true=>simp only[zbS];exact ao gf (ao NC (aq p9 (aq (ep hR.na (by rw[hR.a,zaa]) (by have:=kq.2.1;omega) (by decide)) (aq (ep hR.np (by rw[hR.p,zaa]) (by have:=kq.1;have:=kq.2.1;omega) (by decide)) (ao gf (ao NC (aq p9 (aq (ep hR.nh (by rw[hR.h,zaa]) (by have:=kq.2.2.1;omega) (by decide)) (⟨m,o,y,na+1,np+1,nh+1,nl,List.take na A++[bE (g.s.1,g.s.2,k)],List.take np P++[bK (rU y)],List.take nh H++[jv (y.node,g.s)],L,i,true,k,rfl,⟨ie,hR.nl.trans (by rw[hR.l,zaa]),by have:=hR.nl;have:=kq.2.2.2;omega⟩,λbt L' mA=>ao (by omega) (hn (na+1,np+1,nh+1,bt,List.take na A++[bE (g.s.1,g.s.2,k)],List.take np P++[bK (rU y)],List.take nh H++[jv (y.node,g.s)],L') ⟨hc,by rw[kC];exact(hR.go r6 mA).1 (by simp[fN,gn]) (by simp[gk,gn])⟩)⟩)))))))))
   |false=>simp only[zbS];exact ao gf (ao NC (aq p9 (aq (ep hR.na (by rw[hR.a,zaa]) (by have:=kq.2.1;omega) (by decide)) (aq (ep hR.np (by rw[hR.p,zaa]) (by have:=kq.1;have:=kq.2.1;omega) (by decide)) (⟨m,o,y,na+1,np+1,nh,nl,List.take na A++[bE (g.s.1,g.s.2,k)],List.take np P++[bK (rU y)],H,L,i,false,k,rfl,⟨ie,hR.nl.trans (by rw[hR.l,zaa]),by have:=hR.nl;have:=kq.2.2.2;omega⟩,λbt L' mA=>ao (by omega) (hn (na+1,np+1,nh,bt,List.take na A++[bE (g.s.1,g.s.2,k)],List.take np P++[bK (rU y)],H,L') ⟨hc,by rw[kC];exact(hR.go r6 mA).2.1 (by simp[fN,gn]) (by simp[gk,gn])⟩)⟩)))))
  by_cases fV:y.kind=1
  ·rw[show(y.kind==0)=false by simp[gn],show(y.kind==1)=true by simp[fV],show(y.kind !=2)=true by simp[fV]];cases on with
   |true=>simp only[zbS,zbo];exact ao gf (ao NC (aq p9 (aq (ep hR.na (by rw[hR.a,zaa]) (by have:=kq.2.1;omega) (by decide)) (aq (ep hR.np (by rw[hR.p,zaa]) (by have:=kq.1;have:=kq.2.1;omega) (by decide)) (ao gf (ao NC (aq p9 (aq (ep hR.nh (by rw[hR.h,zaa]) (by have:=kq.2.2.1;omega) (by decide)) (⟨m,o,y,na+1,np+1,nh+1,nl,List.take na A++[bE (g.s.1,g.s.2,k)],List.take np P++[bK (rU y)],List.take nh H++[jv (y.node,g.s)],L,i,true,k,rfl,⟨ie,hR.nl.trans (by rw[hR.l,zaa]),by have:=hR.nl;have:=kq.2.2.2;omega⟩,λbt L' mA=>ao (by omega) (hn (na+1,np+1,nh+1,bt,List.take na A++[bE (g.s.1,g.s.2,k)],List.take np P++[bK (rU y)],List.take nh H++[jv (y.node,g.s)],L') ⟨hc,by rw[kC];exact(hR.go r6 mA).1 (by simp[fN,fV]) (by simp[gk,fV])⟩)⟩)))))))))
   |false=>simp only[zbS,zbo];exact⟨m,o,y,na,np,nh,nl,A,P,H,L,i,false,k,rfl,⟨ie,hR.nl.trans (by rw[hR.l,zaa]),by have:=hR.nl;have:=kq.2.2.2;omega⟩,λbt L' mA=>ao (by omega) (hn (na,np,nh,bt,A,P,H,L') ⟨hc,by rw[kC];exact(hR.go r6 mA).2.2.2 (by simp[fN,fV]) (by simp[gk,fV])⟩)⟩
  by_cases JN:y.kind=2
  ·rw[show(y.kind==0)=false by simp[gn],show(y.kind==1)=false by simp[fV],show(y.kind !=2)=false by simp[JN]];cases on with
   |true=>simp only[zbo];exact⟨m,o,y,na,np,nh,nl,A,P,H,L,i,true,k,rfl,⟨ie,hR.nl.trans (by rw[hR.l,zaa]),by have:=hR.nl;have:=kq.2.2.2;omega⟩,λbt L' mA=>ao (by omega) (hn (na,np,nh,bt,A,P,H,L') ⟨hc,by rw[kC];exact(hR.go r6 mA).2.2.2 (by simp[fN,JN]) (by simp[gk,JN])⟩)⟩
   |false=>simp only[zbo];exact⟨m,o,y,na,np,nh,nl,A,P,H,L,i,false,k,rfl,⟨ie,hR.nl.trans (by rw[hR.l,zaa]),by have:=hR.nl;have:=kq.2.2.2;omega⟩,λbt L' mA=>ao (by omega) (hn (na,np,nh,bt,A,P,H,L') ⟨hc,by rw[kC];exact(hR.go r6 mA).2.2.2 (by simp[fN,JN]) (by simp[gk,JN])⟩)⟩
  rw[show(y.kind==0)=false by simp[gn],show(y.kind==1)=false by simp[fV],show(y.kind !=2)=true by simp[JN]];cases on with
  |true=>simp only[zbo];exact ao gf (ao NC (aq p9 (aq (ep hR.nh (by rw[hR.h,zaa]) (by have:=kq.2.2.1;omega) (by decide)) (⟨m,o,y,na,np,nh+1,nl,A,P,List.take nh H++[jv (y.node,g.s)],L,i,true,k,rfl,⟨ie,hR.nl.trans (by rw[hR.l,zaa]),by have:=hR.nl;have:=kq.2.2.2;omega⟩,λbt L' mA=>ao (by omega) (hn (na,np,nh+1,bt,A,P,List.take nh H++[jv (y.node,g.s)],L') ⟨hc,by rw[kC];exact(hR.go r6 mA).2.2.1 (by simp[fN,gn,fV]) (by simp[gk,JN])⟩)⟩))))
  |false=>simp only[zbo];exact⟨m,o,y,na,np,nh,nl,A,P,H,L,i,false,k,rfl,⟨ie,hR.nl.trans (by rw[hR.l,zaa]),by have:=hR.nl;have:=kq.2.2.2;omega⟩,λbt L' mA=>ao (by omega) (hn (na,np,nh,bt,A,P,H,L') ⟨hc,by rw[kC];exact(hR.go r6 mA).2.2.2 (by simp[fN,gn]) (by simp[gk])⟩)⟩)
 (by
  rintro⟨m,o,g,i,on,t,N⟩ ⟨na,np,nh,nl,A,P,H,L⟩ k ae hk ⟨hc,hR⟩ ho;dsimp only at*
  (rw[<-TP];delta Ed Ee Vx TL bP YY zC NV eL oI NW YZ Y0 eu Zb5 NX Hv NY NZ N0 wc Aw N1 cW N2 TM Zt ZK JE N3 N4 Hw jE Hx fu oH tI Zn qG gh vA Za Z9 Zj q9 Rm vQ vR vS zp Ah zq Ai Aj lq zr zs zt zu zw uo uq ur vT VC Zb4 Z7 vB Zbc Zbi Zbj Zg ij lA Zb9 Zb8 Zb7 Hs Zbg Zbm qi qj Zbb Zbf Zbe y9 eM fH tJ ot vY Zbn Zba ZE Zbh Zbd Zbk Zbl Ht NU Hu)
  rw[hc.2.2.1.2.2];have u6:D.fa (D.ar (aV g) 6)=g.ops.map eI:=rfl;rw[u6];rw[zak] at hR;have gf:0<=i/\i<(m.length:Int):=⟨hc.2.2.1.1,hc.2.2.1.2.1⟩
  have NC:i.toNat<(m.map aV).length:=by rw[zaa];omega
  exact ao gf (ao NC (aq (gi g) (mq (by rw[zaa];omega) (ho _ (λh=>by cases h) ⟨na,np,nh,nl,A,P,H,L,hR,rfl⟩)))))
 (by rintro s ae ⟨m,o,na,np,nh,nl,A,P,H,L,i,on,t,N,hi,rfl,⟨h1,h2,h3,h4⟩,hp⟩;refine⟨⟨m,o,m[i.toNat],i,on,t,N⟩,(na,np,nh,nl,A,P,H,L),rfl,⟨⟨h2,h3,⟨h4.1,by show i<(m.length:Int);omega,aA _ _ _ hi⟩,h4.2.1,h4.2.2⟩,h1⟩,?_⟩;rintro z ⟨oJ,oK,oL,bt,A',P',H',L',g1,rfl⟩;exact hp oJ oK oL bt A' P' H' L' g1)
end
abbrev Y4(l:List az)(s:az)(k:Int):S:=⟨19,[(0,ki l),(3,.ref 0 0 0),(7,iD ((l.map bh).length:Int)),(8,iD k)],[(0,⟨0,none,.box 30 [iD s.1,iD s.2]⟩)]⟩
theorem TX(l:List az)(s:az)(k:Int)(ae:PX×S->Prop):(bif Xq k l then bif Rc k l then bif vU l k then bif Prod.fst s==Hg l k&&(Prod.snd s==I5 l k&&true) then ae (PX.ret,S.mk 19 (Ap k) []) else bif Zj k then ae (PX.normal,S.mk 19 (Z86 l::dH::(7,P.d (D.int .i64 (Dd l)))::qG k) (Z87 s)) else False else False else False else ae (PX.exit 0,S.mk 19 [] []))=(aG [] [] 69 2 (Y4 l s k)) ae:=by kernel_rfl
def qd8:S->K (PX×S):=λst ae=> ∃l s,st=Y4 l s 0/\l.length<=1000000/\(∀i:Int,i=uk (λx=>x==s) l->0<=i->ae (.ret,⟨19,[(4,iD i)],[]⟩))/\(uk (λx=>x==s) l= -1->ae (.exit 0,⟨19,[],[]⟩))
def Zbo(l:List az)(s:az):S:=S.mk 19 (Z86 l::dH::(7,P.d (D.int .i64 (Dd l)))::Jx) (Z87 s)
theorem qgT(l:List az)(s:az)(ae:P×List (Nat×En)->Prop):(∃(au:List az) (iF:az),Zbo l s=Zbo au iF/\rT au/\(∀(i:Int),i=uk (λ(x:az)=>x==iF) au->(0:Int)<=i->ae (P.d (Zt i),[]))/\(uk (λ(x:az)=>x==iF) au=(-1:Int)->oO ae))=(aK [] [(2,ah (aO 69 2) qd8)] 69 [ki l,.d (bh s)] []) ae:=by kernel_rfl
def qd9:br:=λps R ae=> ∃l s,ps=[ki l,.d (bh s)]/\R=[]/\l.length<=1000000/\ ∀i,i=uk (λx=>x==s) l->ae (iD i,[])
theorem qgU(l:List az)(s:az)(ae:P×List (Nat×En)->Prop):(∃(au:List az) (iF:az),uu l::qg s=uu au::qg iF/\Zx/\rT au/\ ∀(i:Int),i=uk (λ(x:az)=>x==iF) au->ae (P.d (D.bool (Z2 i)),[]))=(aK [(69,qd9)] [] 38 [ki l,.d (bh s)] []) ae:=by kernel_rfl
def GK:br:=λps R ae=> ∃l s,ps=[ki l,.d (bh s)]/\R=[]/\l.length<=1000000/\ ∀b,b=decide (s∈l)->ae (.d (.bool b),[])
def JO:br:=λps R ae=> ∃l,ps=[bT l]/\R=[]/\mn l/\ ∀o,o=Jn l->ae (.sl 0 0 o.length,[(0,⟨0,none,l0 false o⟩)])
abbrev DK:Nat:=101
abbrev kpU:Option (List Nat×List Nat):=some ([4,5,6],[4,5,6])
abbrev vlR(own:List ak):List (Nat×En):=[(0,⟨0,some 1,.ew⟩),(1,⟨0,some 0,.box 22 [bT own]⟩)]
abbrev zF(own:List ak)(i:Int):S:=⟨16,[(0,.mp 0 0),(1,.ref 1 0 0),(5,bT own),(6,iD ((own.map aV).length:Int)),(7,iD i)],vlR own⟩
abbrev VL(own:List ak):S:=⟨16,[(0,.mp 0 0),(1,.ref 1 0 0)],vlR own⟩
abbrev VM(z:Bool)(on:List az)(x:az)(e:Int):S:=⟨27,[(4,.ref 0 0 0),(5,.ref 1 0 0),(6,.ref 2 0 0)],[(0,⟨0,none,.box 30 [iD x.1,iD x.2]⟩),(1,⟨0,none,.box 35 [iD e]⟩),(2,⟨0,none,.box 51 [.sl 3 0 on.length]⟩),(3,⟨0,none,l0 z on⟩)]⟩
def VN(own:List ak):List (Nat×En):=[(0,En.mk 0 (some 1) Obj.ew),(1,En.mk 0 (some 0) (Obj.box (22:TypeId) [dq own]))]
def VO:Nat×P:=(0,P.mp 0 0)
def JP(own:List ak):S:=S.mk 16 [VO,(1,jE)] (VN own)
def LF(on:List az):Nat×En:=(3,oI on)
def zG(on:List az):Nat×En:=(2,En.mk 0 none (Obj.box (51:TypeId) [P.sl 3 0 (eu on)]))
def N5:En:=En.mk 0 none (Obj.box (35:TypeId) qy)
def zH:Nat×En:=(1,N5)
def JQ:Nat×P:=(6,sc)
def Zbw:List (Nat×P):=[As,Jv,JQ]
def ZbG(on:List az):PX×S:=(PX.normal,S.mk 27 Zbw [wT,zH,zG on,LF on])
def TY(own:List ak)(i:Int):S:=S.mk 16 (VO::(1,jE)::(5,dq own)::(6,Ds own)::ZL i) (VN own)
def Y5(on:List az):Nat×En:=(3,En.mk 0 none (Obj.arr (30:TypeId) true (eL on)))
def ZbD(on:List az):PX×S:=(PX.normal,S.mk 27 Zbw [wT,zH,zG on,Y5 on])
def Zbx(own:List ak)(i:Int):Nat×En:=(0,En.mk 0 none (Obj.box (30:TypeId) [P.d (qj own i),P.d (qi own i)]))
def VP(b:Bool)(l:List az)(s:az):Prop:=b=decide (s∈l)
def T0(on:List az):D:=D.sl 2 (List.take (eu on) (eL on))
def ZbE(on:List az)(own:List ak)(i:Int)(ae:PX×S×PX×S->Prop):Prop:= ∃(l:List az) (s:az),P.d (T0 on)::RT own i=uu l::qg s/\Zx/\rT l/\ ∀(b:Bool),VP b l s->bif b then ae (PX.ret,JP own,PX.ret,S.mk 27 Zbw [Zbx own i,zH,zG on,Y5 on]) else bif Zj i then ae (PX.normal,TY own i,ZbD on) else False
def VQ(own:List ak)(i:Int):Bool:=D.aj (D.ar (ij own i) 4)==(0:Int)&&(D.aj (D.ar (ij own i) 5)==(0:Int)&&true)
theorem qiL(own:List ak)(on:List az)(i:Int)(ae:PX×S×PX×S->Prop):(bif qk i own then bif ko i own then bif eM own i then bif VQ own i then ZbE on own i ae else bif Zj i then ae (PX.normal,TY own i,ZbG on) else False else False else False else ae (PX.exit 0,JP own,ZbG on))=(lZ [(38,GK)] [] 19 4 2000000 kpU 1 DK 1 (zF own i,(.normal,VM false on (0,0) 0))) ae:=by kernel_rfl
theorem qiM(own:List ak)(on:List az)(i:Int)(ae:PX×S×PX×S->Prop):(bif qk i own then bif ko i own then bif eM own i then bif VQ own i then ZbE on own i ae else bif Zj i then ae (PX.normal,TY own i,ZbD on) else False else False else False else ae (PX.exit 0,JP own,ZbD on))=(lZ [(38,GK)] [] 19 4 2000000 kpU 1 DK 1 (zF own i,(.normal,VM true on (0,0) 0))) ae:=by kernel_rfl
def gUn:yM:=λy ae=> ∃own on,(own.length<=1000000/\on.length<=1000000)/\y=(zF own 0,(.normal,VM false on (0,0) 0))/\
 (∀z s,eA on own=some s->ae (.ret,VL own,(.ret,VM z on s 0)))/\(∀z,eA on own=none->ae (.exit 0,VL own,(.normal,VM z on (0,0) 0)))
abbrev unA(l own:List ak)(on:List az)(r:Int):S:=⟨27,[(0,bT l),(1,iD r),(4,.ref 1004 0 0),(5,.ref 1005 0 0),(6,.ref 1006 0 0),(8,bT l),(9,.sl 1009000 0 on.length),(10,bT l),(11,iD r),(12,.fn DK [.ref 1012000 0 0])],
 [(1004,⟨0,none,.box 30 [iD 0,iD 0]⟩),(1005,⟨0,none,.box 35 [iD 0]⟩),(1006,⟨0,none,.box 51 [.sl 1009000 0 on.length]⟩),(1006000,⟨0,none,.arr 30 false []⟩),(1009000,⟨0,none,l0 false on⟩),(1012000,⟨0,none,.box 22 [bT own]⟩)]⟩
def ZbI(aN:List az)(z:Bool):List (Nat×En):=[zH,zG aN,(3,En.mk 0 none (Obj.arr (30:TypeId) z (eL aN)))]
def ZbH(own:List ak):S:=S.mk 16 (VO::(1,jE)::(5,dq own)::(6,Ds own)::rI) (VN own)
theorem qiN(l own:List ak)(on:List az)(r:Int)(ae:PX×S->Prop):(∃(rb:List ak) (aN:List az),(mB rb/\rT aN)/\(ZbH own,ZbG on)=(ZbH rb,ZbG aN)/\(∀(z:Bool) (s:az),eA aN rb=some s->ae (PX.ret,S.mk 27 Zbw (Hk s::ZbI aN z)))/\ ∀(z:Bool),eA aN rb=none->ae (PX.normal,S.mk 27 Zbw (wT::ZbI aN z)))=(wK [] [] (λfi yt=>if Nat.beq fi DK&&Nat.beq yt 1 then [(1,eb (aO DK 1) gUn)] else []) 19 4 2000000 kpU (unA l own on r)) ae:=by kernel_rfl
def qea:S->K (PX×S):=λs ae=> ∃l own on r,s=unA l own on r/\(own.length<=1000000/\on.length<=1000000)/\(∀z s,eA on own=some s->ae (.ret,VM z on s 0))/\(∀z,eA on own=none->ae (.normal,VM z on (0,0) 0))
def stO(a:az×Int):P:= .cX [.d (bh a.1),iD a.2]
def ZbN(ae:P×List (Nat×En)->Prop):Prop:=ae (P.cX [P.d (D.agg [Z7,Z7]),P.d (D.int .i64 (200:Int))],[])
def ZbM(ae:P×List (Nat×En)->Prop)(s:az):Prop:=ae (P.cX (tH s::qy),[])
def ZbK(aP:List ak):En:=En.mk 0 none (Obj.box (22:TypeId) [dq aP])
def ZbL(l:List ak)(r:Int)(o:List az)(aP:List ak):S:=S.mk 27 [gj l,ZF r,(4,P.ref 1004 0 0),(5,P.ref 1005 0 0),(6,P.ref 1006 0 0),(8,dq l),(9,P.sl 1009000 0 (eu o)),(10,dq l),(11,P.d (Zt r)),(12,P.fn (101:FuncId) [P.ref 1012000 0 0])] [(1004,zy),(1005,N5),(1006,En.mk 0 none (Obj.box (51:TypeId) [P.sl 1009000 0 (eu o)])),(1006000,wc),(1009000,oI o),(1012000,ZbK aP)]
def LG(l:List ak)(r:Int):List P:=dq l::Zv r
theorem qiO(l:List ak)(r:Int)(ae:P×List (Nat×En)->Prop):(∃(au:List ak),Ec l au/\Zx/\mn au/\ ∀(o:List az),o=Jn au-> ∃(iG:List ak) (cB:Int),LG l r=LG iG cB/\Zx/\mn iG/\ ∀(aP:List ak),aP=vW (aI iG) cB-> ∃(mZ:List ak) (own:List ak) (on:List az) (vn:Int),ZbL l r o aP=ZbL mZ vn on own/\(mB own/\rT on)/\(∀(_:Bool) (s:az),eA on own=some s->ZbM ae s)/\ ∀(_:Bool),eA on own=none->ZbN ae)=(rR [(36,TC)] [(35,JO)] [(500004,qea)] 19 [bT l,iD r] []) ae:=by kernel_rfl
theorem qgV(s x:az):(s.1==x.1&&(s.2==x.2&&true))=(x==s):=by rw[zaF];obtain⟨a,b⟩:=s;obtain⟨c,d⟩:=x;simp;omega
section
variable{X:XF}
theorem Y6:LD X 69 2 (ah (aO 69 2) qd8):=
 LD.find (H:=[]) (hk:=[]) (by kernel_rfl) (by kernel_rfl) .nil .nil
  (A:=List az×az) (λa k=>Y4 a.1 a.2 k) (·.1) (λa _ x=>x==a.2) (λa=>a.1.length<=1000000) (λa i=>(.ret,⟨19,[(4,iD i)],[]⟩)) (λa=>(.exit 0,⟨19,[],[]⟩)) (λ_ _ h=>by cases h) (λ_ h=>by cases h)
  (by
   rintro⟨l,s⟩ k ae dQ hm h0 hk ht hf;dsimp only at*
   (rw[<-TX];delta ll ln Ao Hk Z87 Zn qG eL Dd cb dH uu Z86 Za Z9 Zj Zt nq Ap Zg I5 Hg vU Rc Xq)
   have e1:D.nth (l.map bh) k.toNat=bh l[k.toNat]:=aA _ _ _ dQ;have v:(s.1==D.aj (D.ar (bh l[k.toNat]) 0)&&(s.2==D.aj (D.ar (bh l[k.toNat]) 1)&&true))=(l[k.toNat]==s):=qgV _ _;rw[e1,v];simp only[Y4,zaa] at hf⊢;exact bM hk (ao ⟨h0,hk⟩ (aq (jS _) (ay (λh=>ht h) λh=>ao (by omega) (hf h)))))
  (by
   rintro⟨l,s⟩ k ae hm hk hp;dsimp only at*
   (rw[<-TX];delta ll ln Ao Hk Z87 Zn qG eL Dd cb dH uu Z86 Za Z9 Zj Zt nq Ap Zg I5 Hg vU Rc Xq)
   exact mq (by rw[zaa];omega) hp)
  (by rintro st ae ⟨l,s,rfl,hm,h1,h2⟩;exact⟨(l,s),rfl,hm,λi hi h0 ht hb=>h1 i (by rw[F6 hi ht hb];omega) h0,λh=>h2 (KU h)⟩)
theorem qgW:FD X 69 qd9:=FD.mk (H:=[]) (hk:=[(2,ah (aO 69 2) qd8)]) (by kernel_rfl) .nil (.cons Y6 .nil) (by
 intro ps R ae hh;obtain⟨l,s,rfl,rfl,hm,hp⟩:=hh
 (rw[<-qgT];delta QW oO Zt eu rT ll ln Ao Hk Z87 Z7 Jx eL Dd cb dH uu Z86 Zbo)
 exact⟨l,s,rfl,hm,λi hi _=>hp i hi,λh=>hp _ h.symm⟩)
theorem qbl:FD X 38 GK:=FD.mk (H:=[(69,qd9)]) (hk:=[]) (by kernel_rfl) (.cons qgW .nil) .nil (by
 intro ps R ae hh;obtain⟨l,s,rfl,rfl,hm,hp⟩:=hh
 (rw[<-qgU];delta Z2 eu rT Zx ll ln tH qg eL uu)
 refine⟨l,s,rfl,rfl,hm,λi hi=>hp _ ?_⟩;have h:=yB (λx=>x==s) l;rw[<-hi] at h;rw[zaF,zah,zah];have h2:(l.any λx=>x==s)=true↔s∈l:=by simp[zbz]
 rw[<-h2];constructor
 ·intro hge;refine zaN λhn=> ?_;rw[zaP] at hn;have:=h.2 hn;omega
 intro ha;refine zaN λhn=> ?_;have:=h.1 (by omega);rw[this] at ha;cases ha)
end
theorem wV(l:List ak):(Jn l).length<=l.length:=by have h1:=XK ((aI l).map km);have h2:=dJ l;rw[zaa] at h1;unfold Jn;omega
section
variable{X:XF}{w0:World}(hX:du PR w0 X.cf)
include hX
theorem qiP:LY w0 19 4 1 DK 1 (eb (aO DK 1) gUn):=LY.par hX (H:=[(38,GK)]) (HN:=[]) (base:=2000000) (keep:=kpU) D5 (.cons qbl .nil) .nil (by kernel_rfl) (by kernel_rfl) (by kernel_rfl)
 (A:=List ak×List az) (B:=Bool×Int)
 (λa b=>(zF a.1 b.2,(.normal,VM b.1 a.2 (0,0) 0)))
 (λa b=>(a.1.length<=1000000/\a.2.length<=1000000)/\0<=b.2/\b.2.toNat<=a.1.length/\eA a.2 a.1=eA a.2 (a.1.drop b.2.toNat))
 (λa b=>((a.1.length:Int)-b.2).toNat)
 (λa x=>(∃z s,eA a.2 a.1=some s/\x=(.ret,VL a.1,(.ret,VM z a.2 s 0)))\/(∃z,eA a.2 a.1=none/\x=(.exit 0,VL a.1,(.normal,VM z a.2 (0,0) 0))))
 (by
  rintro⟨own,on⟩ ⟨z,i⟩ ⟨hm,h0,hi,hu⟩;dsimp only at*
  have key: ∀(bj:i.toNat<own.length),eA on own=if own[i.toNat].bY=(0,0)/\own[i.toNat].s∈on then some own[i.toNat].s else eA on (own.drop (i+1).toNat):=λbj=>by rw[hu,za3 bj,show(i+1).toNat=i.toNat+1 by omega];rfl
  have Iv: ¬i.toNat<own.length->eA on own=none:=λbj=>by rw[hu,List.drop_of_length_le (by omega)];rfl
  have tk:List.take on.length (on.map bh)=on.map bh:=zai (by simp);cases z with
  |false=>
   (rw[<-qiL];delta cW dq VN jE VO JP eL oI LF eu zG Z7 qy N5 zH zy wT sc JQ Jv cb As Zbw ZbG Zn ZL fH Ds TY Za Z9 Zj Y5 ZbD Zg ij qi qj Zbx VP rT Zx ll ln tH qg uu vw RT T0 ZbE VQ eM ko qk)
   rw[zaa];refine cE (λhp=> ?_) λhp=> .inr ⟨false,Iv (by omega),rfl⟩;have bj:i.toNat<own.length:=by omega
   have e1:D.nth (own.map aV) i.toNat=aV own[i.toNat]:=aA _ _ _ bj;have key:=key bj;rw[e1,tk];generalize own[i.toNat]=g at*
   have u1:D.aj (D.ar (aV g) 4)=g.bY.1:=rfl;have u2:D.aj (D.ar (aV g) 5)=g.bY.2:=rfl;rw[u1,u2];refine ao ⟨h0,hp⟩ (aq (gi _) (ay (λh=>⟨on,g.s,rfl,rfl,hm.2,λb hb=> ?_⟩) λh=>ao (by omega) ?_))
   ·have hz:g.bY=(0,0):=by simp only[zbv,zab,zaR] at h;exact zdf h.1 h.2
    subst hb;refine cE (λhb=> .inl ⟨true,g.s,by rw[key,zao ⟨hz,hb⟩],rfl⟩) λhb=>ao (by omega) ?_;exact⟨((own.length:Int)-(i+1)).toNat,by omega,(true,i+1),by simp only[zF,zaa],⟨hm,by show 0<=i+1;omega,by show(i+1).toNat<=_;omega,by show eA on own=eA on (own.drop (i+1).toNat);rw[key,zam (λhh=>hb hh.2)]⟩,rfl⟩
   have hz: ¬g.bY=(0,0):=λhz=>by rw[hz] at h;simp at h
   exact⟨((own.length:Int)-(i+1)).toNat,by omega,(false,i+1),by simp only[zF,zaa],⟨hm,by show 0<=i+1;omega,by show(i+1).toNat<=_;omega,by show eA on own=eA on (own.drop (i+1).toNat);rw[key,zam (λhh=>hz hh.1)]⟩,rfl⟩
  |true=>
   (rw[<-qiM];delta cW dq VN jE VO JP eL Y5 eu zG Z7 qy N5 zH zy wT sc JQ Jv cb As Zbw ZbD Zn ZL fH Ds TY Za Z9 Zj Zg ij qi qj Zbx VP rT Zx ll ln tH qg uu vw RT T0 ZbE VQ eM ko qk)
   rw[zaa];refine cE (λhp=> ?_) λhp=> .inr ⟨true,Iv (by omega),rfl⟩;have bj:i.toNat<own.length:=by omega
   have e1:D.nth (own.map aV) i.toNat=aV own[i.toNat]:=aA _ _ _ bj;have key:=key bj;rw[e1,tk];generalize own[i.toNat]=g at*
   have u1:D.aj (D.ar (aV g) 4)=g.bY.1:=rfl;have u2:D.aj (D.ar (aV g) 5)=g.bY.2:=rfl;rw[u1,u2];refine ao ⟨h0,hp⟩ (aq (gi _) (ay (λh=>⟨on,g.s,rfl,rfl,hm.2,λb hb=> ?_⟩) λh=>ao (by omega) ?_))
   ·have hz:g.bY=(0,0):=by simp only[zbv,zab,zaR] at h;exact zdf h.1 h.2
    subst hb;refine cE (λhb=> .inl ⟨true,g.s,by rw[key,zao ⟨hz,hb⟩],rfl⟩) λhb=>ao (by omega) ?_;exact⟨((own.length:Int)-(i+1)).toNat,by omega,(true,i+1),by simp only[zF,zaa],⟨hm,by show 0<=i+1;omega,by show(i+1).toNat<=_;omega,by show eA on own=eA on (own.drop (i+1).toNat);rw[key,zam (λhh=>hb hh.2)]⟩,rfl⟩
   have hz: ¬g.bY=(0,0):=λhz=>by rw[hz] at h;simp at h
   exact⟨((own.length:Int)-(i+1)).toNat,by omega,(true,i+1),by simp only[zF,zaa],⟨hm,by show 0<=i+1;omega,by show(i+1).toNat<=_;omega,by show eA on own=eA on (own.drop (i+1).toNat);rw[key,zam (λhh=>hz hh.1)]⟩,rfl⟩)
 (by
  rintro y ae ⟨own,on,h1,rfl,h2,h3⟩;refine⟨(own,on),(false,0),rfl,⟨h1,zbA _,by simp,rfl⟩,?_⟩;rintro x (⟨z,s,h,rfl⟩| ⟨z,h,rfl⟩)
  ·exact h2 z s h
  exact h3 z h)
theorem qiQ:FN w0 19 4 qea:=FN.mk hX (H:=[]) (HN:=[]) D5 .nil .nil (base:=2000000) (keep:=kpU) (by kernel_rfl) (hk:=λfi yt=>if Nat.beq fi DK&&Nat.beq yt 1 then [(1,eb (aO DK 1) gUn)] else [])
 (by
  intro fi yt h zx hl;split at hl
  next hb=>
   rw[zab] at hb;have e1:=zaf hb.1;have e2:=zaf hb.2;subst e1 e2;unfold lk at hl;split at hl
   next he=>have e3:=zaf he;subst e3;cases hl;exact⟨by kernel_rfl,qiP hX⟩
   cases hl
  cases hl)
 (by
  rintro s ae ⟨l,own,on,r,rfl,hm,h1,h2⟩
  (rw[<-qiN];delta Z7 qy zy wT eL eu zG N5 zH ZbI ll ln Ao Hk sc JQ jE Jv cb As Zbw oI LF ZbG cW dq VN rI fH Ds VO ZbH rT fu mB)
  exact⟨own,on,hm,rfl,h1,h2⟩)
def vF:br:=λps R ae=> ∃l r,ps=[bT l,iD r]/\R=[]/\mn l/\ ∀a,a=vv l r->ae (stO a,[])
theorem qeb(hV:ND w0 35 JO):ND w0 19 vF:=ND.mk hX (H:=[(36,TC)]) (HN:=[(35,JO)]) (hk:=[(500004,qea)]) D5 (by kernel_rfl) (by kernel_rfl) (.cons qbc .nil) (.cons hV .nil) (.range (qiQ hX) .nil) (by
 intro ps R ae hh;obtain⟨l,r,rfl,rfl,hs,hp⟩:=hh
 (rw[<-qiO];delta Z7 ZbN qy ll ln tH ZbM eu rT fu mB cW dq ZbK eL oI wc N5 zy Zt ZF gj ZbL Zv LG Zx Ec)
 have hl:=hs.1;have h1:=wV l;have h2:=dJ l;have h3:(vW (aI l) r).length<=(aI l).length:=by rw[(mU _ _).length_eq];exact za5 _ _
 refine⟨l,rfl,rfl,hs,λo ho=>⟨l,r,rfl,rfl,hs,λow how=>⟨l,ow,o,r,rfl,⟨by rw[how];omega,by rw[ho];omega⟩,λ_ s h=> ?_,λ_ h=> ?_⟩⟩⟩
 ·exact hp (s,0) (by unfold vv;rw[<-ho,<-how,h];rfl)
 exact hp ((0,0),200) (by unfold vv;rw[<-ho,<-how,h];rfl))
end
def qec:S->K (PX×S):=λs ae=> ∃m o,s=of7 m o 0 0 0 0 [] [] [] [] 0/\(m.length<=1000000/\o.length<=1000000/\ ∀g∈m,ct g=true)/\ ∀na np nh nl A P H L,ra (wg o m) na np nh nl A P H L->ae (.exit 0,⟨140,[(0,.sl 0 0 m.length),(2,.ref 1 0 0),(3,.ref 7 0 0),(4,.sl 13 0 na),(5,.sl 14 0 np)],ofR m o nh nl A P H L⟩)
def T1(T2:List av):P:=P.d (D.sl 3 (List.take (ib T2) (gu T2)))
def ZbO(m:List ak):P:=P.d (D.sl 7 (List.take (fu m) (cW m)))
def ZbQ(m:List ak)(o:List az):S:=S.mk 140 (tI m::Hx::Hw::(4,P.sl 13 0 0)::(5,P.sl 14 0 0)::Jy) [N2 m,N1,Aw,N0,NZ,NY,NX,(7,En.mk 0 none (Obj.box (69:TypeId) (P.sl 8 0 (eu o)::Y0::P.sl 10 0 0::P.sl 11 0 0::YZ))),NW o,NV,(10,Hv),(11,Hv),TL,(13,Lv),(14,zC)]
def ZbP(m:List ak)(l:List ak):Prop:=[ZbO m]=[dq l]
theorem qiR(l:List ak)(ae:P×List (Nat×En)->Prop):(∃(au:List ak),Ec l au/\Zx/\mn au/\ ∀(m:List ak),m=aI au-> ∃(l:List ak),ZbP m l/\Zx/\mB l/\ ∀(o:List Hd),o=List.map km l-> ∃(l:List Hd),[P.d (D.sl 4 (Jq o))]=Z8H l/\Zx/\qm l/\ ∀(o:List az),o=RD l-> ∃(bZ:List ak) (aP:List az),ZbQ m o=ZbQ bZ aP/\(mB bZ/\rT aP/\ZaK bZ)/\ ∀(na np nh nl:Nat) (A P H L:List D),ra (wg aP bZ) na np nh nl A P H L-> ∃(a:List av) (l:List Pl),[Pi.P.d (D.sl 3 (List.take na A)),Pi.P.d (D.sl 8 (List.take np P))]=[lL a,lF l]/\Zx/\(pS a/\jU l=ib a)/\ ∀(o:List Pl),o=NH (JD a l)-> ∃(l:List ak) (p:List Pl),[ZbO bZ,Pi.P.d (D.sl 8 (List.take (jU o) (iv o)))]=[dq l,lF p]/\Zx/\ZaL p l/\ ∀(o:List Pl),o=Hp l p-> ∃(h:List bf) (g:List bf),[Pi.P.d (D.sl 5 (List.take nh H)),Pi.P.d (D.sl 5 (List.take nl L))]=[Av h,Av g]/\Zx/\(BH h/\BH g)/\ ∀(T2:List av),T2=NI h g-> ∃(l:List Pl) (v:List av),[Pi.P.d (D.sl 8 (List.take (jU o) (iv o))),T1 T2]=[lF l,lL v]/\Zx/\(jU l<=1000/\pS v)/\ae (Pi.P.d (D.agg [T0 aP,D.sl 8 (List.take (jU o) (iv o)),D.sl 5 (List.take nh H),D.sl 5 (List.take nl L),D.sl 6 (List.take (List.length (jT (oP l) v)) (List.map fw (jT (oP l) v)))]),[]))=(aK [(40,vX),(44,qdy),(53,qdB),(55,qd2),(54,TJ),(57,S0),(56,DC)] [(7,ah (aO 32 7) qec)] 32 [bT l] []) ae:=by kernel_rfl
def T3(l:List ak)(t:Tl):List Pl:=Hp l (NH (JD t.a t.p))
def qgX(l:List ak)(t:Tl):List It:=jT (oP (T3 l t)) (NI t.h t.g)
def qgY(o:List az)(p:List Pl)(h g:List bf)(x:List It):P:= .d (.agg [.sl 2 (o.map bh),.sl 8 (p.map bK),.sl 5 (h.map jv),.sl 5 (g.map jv),.sl 6 (x.map fw)])
def SmS(l:List ak):Prop:=mn l/\SmV l
def T4:br:=λps R ae=> ∃l,ps=[bT l]/\R=[]/\SmS l/\ ∀o t p x,o=Jn l->t=wg o (aI l)->p=T3 (aI l) t->x=qgX (aI l) t->ae (qgY o p t.h t.g x,[])
def GL(f:D->Option D)(o:List az):Prop:= ∀s:az,f (bh s)=if s∈o then some (.agg []) else none
abbrev vwG(g:List ak)(o:List az)(f:D->Option D)(c:Int)(d:D->Option D)(n:Int)(na np nh nl:Nat)(A P H L:List D):List (Nat×En):=[(0,⟨0,some 0,.box 120 [.sl 1 0 g.length,.sl 2 0 o.length,.mp 3 0,.sl 5 0 na,.sl 6 0 np,.mp 4 0,.sl 7 0 nh,.sl 8 0 nl]⟩),(1,⟨0,some 1,qC false g⟩),(2,⟨0,some 2,l0 false o⟩),(3,⟨0,some 3,onM f c⟩),(4,⟨0,some 6,YN d n⟩),(5,⟨0,none,.arr 50 false A⟩),(6,⟨0,none,.arr 104 false P⟩),(7,⟨0,none,.arr 106 false H⟩),(8,⟨0,none,.arr 106 false L⟩)]
def qed:br:=λps R ae=> ∃x g o f c d n na np nh nl A P H L t N e,ps=[.ref 0 0 0,.d (aV x)]/\R=qgK g o f c d n na np nh nl A P H L/\(GL f o/\ra t na np nh nl A P H L/\lN d e/\uz N t/\N<=300000000/\x.ops.length<=200/\ ∀y∈x.ops,y.ca.length<=200)/\
 ∀d' n' oJ oK oL bt A' P' H' L',ra (tlG o t x) oJ oK oL bt A' P' H' L'->lN d' (x.ops.foldl qJ e)->ae (.cX [],vwG g o f c d' n' oJ oK oL bt A' P' H' L')
abbrev vwL(g:List ak)(o:List az)(f:D->Option D)(c:Int)(d:D->Option D)(n:Int)(na np nh nl:Nat)(A P H L:List D):List (Nat×En):=[(0,⟨0,none,vwB g.length o.length na np nh nl⟩),(1,⟨0,none,qC false g⟩),(2,⟨0,none,l0 false o⟩),(3,⟨0,none,onM f c⟩),(4,⟨0,none,.arr 50 false A⟩),(5,⟨0,none,.arr 104 false P⟩),(6,⟨0,none,YN d n⟩),(7,⟨0,none,.arr 106 false H⟩),(8,⟨0,none,.arr 106 false L⟩)]
abbrev Y7:D->Option D:=λ_=>none
abbrev vw0(g:List ak)(o:List az)(f:D->Option D)(c:Int):List (Nat×En):=vwL g o f c Y7 0 0 0 0 0 [] [] [] []
abbrev vo5(l g:List ak)(h:List Hd)(f:D->Option D)(c:Int)(i:Int):S:=⟨98,[(3,.ref 0 0 0),(4,.mp 9 0),(5,.sl 10 0 h.length),(6,.sl 11 0 h.length),(20,bT l),(21,iD ((l.map aV).length:Int)),(22,iD i)],vw0 g [] Y7 0++[(9,⟨0,none,mpS f c⟩),(10,⟨0,none,l0 false (h.map (·.2))⟩),(11,⟨0,none,l0 false (h.map (·.1))⟩)]⟩
abbrev qgZ(g:List ak)(h:List Hd):S:=⟨98,[(3,.ref 0 0 0),(5,.sl 9 0 h.length),(6,.sl 10 0 h.length)],vw0 g [] Y7 0++[(9,⟨0,none,l0 false (h.map (·.2))⟩),(10,⟨0,none,l0 false (h.map (·.1))⟩)]⟩
def T5(h:List Hd):En:=En.mk 0 none (Obj.arr (30:TypeId) false (nZ h))
def T6(h:List Hd):En:=En.mk 0 none (Obj.arr (30:TypeId) false (ql h))
def Zch(h:List Hd)(l:List ak)(i:Int):En:=En.mk 0 none (Obj.arr (30:TypeId) false (List.take (fM h) (nZ h)++[vw l i]))
def Zcg(h:List Hd)(l:List ak)(i:Int):En:=En.mk 0 none (Obj.arr (30:TypeId) false (List.take (fM h) (ql h)++[D.agg (Vu l i)]))
def Zc2:List P:=[BO,P.sl 4 0 0,P.sl 5 0 0,P.mp 6 0,P.sl 7 0 0,P.sl 8 0 0]
def Zc3:List P:=P.sl 2 0 0::Zc2
def Zc0(l:List ak)(i:Int):List (Nat×P):=[(20,dq l),(21,Ds l),(22,P.d (Zn i))]
def ZbZ:Nat×P:=(4,P.mp 9 0)
def Zcf(h:List Hd)(l:List ak)(i:Int):Nat:=fM h+List.length [D.agg (Vu l i)]
def Zce(h:List Hd)(l:List ak)(i:Int):Nat:=fM h+List.length [vw l i]
def Zcd(h:List Hd):List (Nat×En):=[(10,T6 h),(11,T5 h)]
def T7:Nat×En:=(8,Hv)
def T8:Nat×En:=(7,Hv)
def T9:Nat×En:=(6,En.mk 0 none (Obj.map 50 (λ(_:D)=>none) (0:Int) false))
def Ua:Nat×En:=(5,zC)
def Ub:Nat×En:=(4,Lv)
def Y8:Nat×En:=(3,Nl)
def Zc4(g:List ak):Nat×En:=(0,En.mk 0 none (Obj.box (120:TypeId) (tL g::Zc3)))
def Zc1(h:List Hd)(l:List ak)(i:Int):List (Nat×P):=dH::ZbZ::(5,P.sl 10 0 (fM h))::(6,P.sl 11 0 (fM h))::Zc0 l i
theorem qbm(l g:List ak)(h:List Hd)(f:D->Option D)(c:Int)(i:Int)(ae:PX×S->Prop):(bif qk i l then bif ko i l then bif eM l i then∃(aQ:ak),XR l i aQ/\Zx/\Ow aQ/\ ∀(e:Int),XQ e aQ->bif e !=(0:Int) then bif Zj i then ae (PX.normal,S.mk 98 (Zc1 h l i) (Zc4 g::BJ g::Aw::Y8::Ub::Ua::T9::T8::T7::(9,An f c)::Zcd h)) else False else bif cD PR (3:TypeId) (cF (f (vw l i)) Z7) then bif Z4S f l i then bif cD PR (3:TypeId) (Z4T l i f) then bif decide (D.aj (Z4T l i f)>(1:Int)) then bif Zj i then ae (PX.normal,S.mk 98 (Zc1 h l i) (Zc4 g::BJ g::Aw::Y8::Ub::Ua::T9::T8::T7::(9,Z4Y l i f c)::Zcd h)) else False else bif XP g l i then bif Nat.ble (fM h) (List.length (nZ h))&&aM (Zce h l i) 16 then bif Nat.ble (fM h) (List.length (ql h))&&aM (Zcf h l i) 16 then bif Zj i then ae (PX.normal,S.mk 98 (dH::ZbZ::(5,P.sl 10 0 (Zcf h l i))::(6,P.sl 11 0 (Zce h l i))::Zc0 l i) [(0,En.mk 0 none (Obj.box (120:TypeId) (P.sl 1 0 (K5 g l i)::Zc3))),(1,XO g l i),Aw,Y8,Ub,Ua,T9,T8,T7,(9,Z4Y l i f c),(10,Zcg h l i),(11,Zch h l i)]) else False else False else False else False else False else False else False else False else False else ae (PX.exit 0,S.mk 98 [dH,(5,P.sl 9 0 (fM h)),(6,P.sl 10 0 (fM h))] [Zc4 g,BJ g,Aw,Y8,Ub,Ua,T9,T8,T7,(9,T6 h),(10,T5 h)]))=(eZ [(51,Ga)] [] [] 61 5 (vo5 l g h f c i)) ae:=by kernel_rfl
def qee:S->K (PX×S):=λs ae=> ∃l,s=vo5 l [] [] Y7 0 0/\mn l/\ ∀g h,g=aI l->h=g.map km->ae (.exit 0,qgZ g h)
abbrev qef(g:List ak)(o:List az)(f:D->Option D)(c:Int)(i:Int):S:=⟨98,[(3,.ref 0 0 0),(71,.sl 2 0 o.length),(72,iD (o.length:Int)),(73,iD i)],vw0 g o f c⟩
def Zcj:List (Nat×En):=[Ub,Ua,T9,T8,T7]
def Zci(g:List ak)(o:List az):Nat×En:=(0,En.mk 0 none (Obj.box (120:TypeId) (tL g::BP o::Zc2)))
theorem Uc(g:List ak)(o:List az)(f:D->Option D)(c:Int)(i:Int)(ae:PX×S->Prop):(bif decide (i<(↑(eu o):Int)) then bif decide ((0:Int)<=i/\i<(↑(eu o):Int)) then bif Le i o then bif vU o i then bif Zj i then ae (PX.normal,S.mk 98 [dH,(71,BP o),(72,P.d (D.int .i64 (↑(eu o):Int))),(73,P.d (Zn i))] (Zci g o::BJ g::(2,oI o)::(3,En.mk 0 none (Obj.map 30 (λ(k':D)=>bif D.ob (D.agg [D.int .i64 (Hg o i),D.int .i64 (D.aj (D.ar (D.nth (eL o) (Zg i)) (0+1)))]) k' then some (D.agg []) else f k') (bif Option.isSome (f (D.agg (Al o i))) then c else c+(1:Int)) false))::Zcj)) else False else False else False else False else ae (PX.exit 2,S.mk 98 Hn (Zci g o::BJ g::(2,oI o)::(3,An f c)::Zcj)))=(eZ [] [] [] 61 15 (qef g o f c i)) ae:=by kernel_rfl
def Ud:S->K (PX×S):=λs ae=> ∃g o,s=qef g o Y7 0 0/\o.length<=1000000/\ ∀f c,GL f o->ae (.exit 2,⟨98,[(3,.ref 0 0 0)],vw0 g o f c⟩)
abbrev qeg(g:List ak)(o:List az)(f:D->Option D)(c:Int)(d:D->Option D)(n:Int)(na np nh nl:Nat)(A P H L:List D)(i:Int):S:=⟨98,[(3,.ref 0 0 0),(87,.sl 1 0 g.length),(88,iD (g.length:Int)),(89,iD i)],vwL g o f c d n na np nh nl A P H L⟩
def Zcl(aQ:List ak)(aP:List az)(oJ:Nat)(oK:Nat)(oL:Nat)(bt:Nat)(dK:D->Option D)(dU:Int)(A':List D)(P':List D)(d':D->Option D)(n':Int)(H':List D)(L':List D):List (Nat×En):=(0,En.mk 0 none (Obj.box (120:TypeId) (tL aQ::BP aP::BO::P.sl 4 0 oJ::P.sl 5 0 oK::TG oL bt)))::BJ aQ::(2,oI aP)::(3,An dK dU)::eV A'::eU P'::(6,En.mk 0 none (Obj.map 50 d' n' false))::YP H' L'
def Zck(g:List ak)(o:List az)(na:Nat)(np:Nat)(nh:Nat)(nl:Nat)(f:D->Option D)(c:Int)(A:List D)(P:List D)(d:D->Option D)(n:Int)(H:List D)(L:List D):List (Nat×En):=[fI g o na np nh nl,dN g,dM o,dL f c,(4,En.mk 0 (some 4) (Obj.arr (50:TypeId) false A)),(5,En.mk 0 (some 5) (Obj.arr (104:TypeId) false P)),e7 d n,(7,En.mk 0 (some 7) (Obj.arr (106:TypeId) false H)),(8,En.mk 0 (some 8) (Obj.arr (106:TypeId) false L))]
theorem Ue(g:List ak)(o:List az)(f:D->Option D)(c:Int)(d:D->Option D)(n:Int)(na np nh nl:Nat)(A P H L:List D)(i:Int)(ae:PX×S->Prop):(bif Jp i g then bif vY i g then bif tJ i g then bif eM g i then∃(x:ak) (aQ:List ak) (aP:List az) (dK:D->Option D) (dU:Int) (eO:D->Option D) (cH:Int) (bk:Nat) (bm:Nat) (bn:Nat) (aU:Nat) (dm:List D) (dn:List D) (dp:List D) (cg:List D) (t:Tl) (N:Nat) (e:av->Option Bool),[cb,Pi.P.d (D.agg (Am g i))]=cb::Je x/\Zck g o na np nh nl f c A P d n H L=Zck aQ aP bk bm bn aU dK dU dm dn eO cH dp cg/\(GL dK aP/\ra t bk bm bn aU dm dn dp cg/\lN eO e/\uz N t/\N<=300000000/\Z4f x/\ ∀(y:aX),y∈ak.ops x->List.length (aX.ca y)<=200)/\ ∀(d':D->Option D) (n':Int) (oJ oK oL bt:Nat) (A' P' H' L':List D),ra (tlG aP t x) oJ oK oL bt A' P' H' L'->lN d' (List.foldl qJ e (ak.ops x))->bif Zj i then ae (PX.normal,S.mk 98 [dH,(87,tL g),(88,BK g),(89,Pi.P.d (Zn i))] (Zcl aQ aP oJ oK oL bt dK dU A' P' d' n' H' L')) else False else False else False else False else ae (PX.exit 4,S.mk 98 Hn (Zcl g o na np nh nl f c A P d n H L)))=(eZ [] [(95,qed)] [] 61 20 (qeg g o f c d n na np nh nl A P H L i)) ae:=by kernel_rfl
def DL(g:List ak):av->Option Bool:=(g.flatMap (·.ops)).foldl qJ (λ_=>none)
def Uf:S->K (PX×S):=λs ae=> ∃g o f c,s=qeg g o f c Y7 0 0 0 0 0 [] [] [] [] 0/\(GL f o/\g.length<=1000000/\ ∀x∈g,ct x=true)/\ ∀d n na np nh nl A P H L,ra (wg o g) na np nh nl A P H L->lN d (DL g)->ae (.exit 4,⟨98,[(3,.ref 0 0 0)],vwL g o f c d n na np nh nl A P H L⟩)
def Zco(aQ:List ak)(aP:List az)(f:D->Option D)(c:Int):S:=S.mk 98 [dH,(87,tL aQ),(88,BK aQ),(89,P.d Z7)] (Zci aQ aP::BJ aQ::(2,oI aP)::(3,An f c)::Zcj)
def Zcn(o:List az)(g:List ak):S:=S.mk 98 [dH,(71,BP o),(72,P.d (D.int .i64 (↑(eu o):Int))),(73,P.d Z7)] (Zci g o::BJ g::(2,oI o)::Y8::Zcj)
def Zcm(l:List ak):S:=S.mk 98 [dH,ZbZ,(5,P.sl 10 0 0),(6,P.sl 11 0 0),(20,dq l),(21,Ds l),(22,P.d Z7)] [(0,En.mk 0 none (Obj.box (120:TypeId) (zD::Zc3))),(1,OC),Aw,Y8,Ub,Ua,T9,T8,T7,(9,Nl),(10,wc),(11,wc)]
theorem qiS(l:List ak)(ae:P×List (Nat×En)->Prop):(∃(au:List ak),Zcm l=Zcm au/\mn au/\ ∀(g:List ak) (h:List Hd),g=aI au->h=List.map km g-> ∃(l:List Hd),[P.d (D.sl 2 (List.take (fM h) (nZ h))),P.d (D.sl 2 (List.take (fM h) (ql h)))]=Z6h l/\Zx/\qm l/\ ∀(o:List az),o=RD l-> ∃(aQ:List ak) (aP:List az),Zcn o g=Zcn aP aQ/\rT aP/\ ∀(f:D->Option D) (c:Int),GL f aP-> ∃(g:List ak) (o:List az) (dK:D->Option D) (dU:Int),Zco aQ aP f c=Zco g o dK dU/\(GL dK o/\mB g/\ZaK g)/\ ∀(d:D->Option D) (n:Int) (na np nh nl:Nat) (A P H L:List D),ra (wg o g) na np nh nl A P H L->lN d (DL g)->ae (cb,Zcl g o na np nh nl dK dU A P d n H L))=(rR [] [(94,qc0)] [(5,ah (aO 61 5) qee),(15,ah (aO 61 15) Ud),(20,ah (aO 61 20) Uf)] 61 [bT l] []) ae:=by kernel_rfl
def qeh:br:=λps R ae=> ∃l,ps=[bT l]/\R=[]/\mn l/\ ∀g o f c d n na np nh nl A P H L,g=aI l->o=Jn l->GL f o->ra (wg o g) na np nh nl A P H L->lN d (DL g)->ae (.ref 0 0 0,vwL g o f c d n na np nh nl A P H L)
theorem qg0(l:List ak)(ae:P×List (Nat×En)->Prop):(∃(au:List ak),Ec l au/\Zx/\mn au/\ ∀(g:List ak) (o:List az) (f:D->Option D) (_:Int) (d:D->Option D) (_:Int) (na np nh nl:Nat) (A P H L:List D),g=aI au->o=Jn au->GL f o->ra (wg o g) na np nh nl A P H L->lN d (DL g)->ae (zA o,Nr o))=(rR [] [(61,qeh)] [] 35 [bT l] []) ae:=by kernel_rfl
theorem DM: ∀{l:List ak},(∀g∈l,ct g=true)->df l<=200*l.length
 | [],_=>by simp[lx]
 |g::r,h=>by have h1:=DM (l:=r) λx hx=>h x (.tail _ hx);have h2:=tf (h g (.head _));rw[iV,zap];omega
theorem GL.none:GL Y7 []:=λs=>by rw[zam (by simp)]
theorem GL.go{f:D->Option D}{o:List az}{i:Nat}(hi:i<o.length)(h:GL f (o.take i)):GL (λk'=>bif D.ob (bh o[i]) k' then some (.agg []) else f k') (o.take (i+1)):=λs=>by
 show(bif D.ob (bh o[i]) (bh s) then some (D.agg []) else f (bh s))=_;rw[Ty,h s,zag hi];by_cases hs:o[i]=s
 ·subst hs;rw[show(o[i]==o[i])=true by simp];show some (D.agg [])=_;rw[zao (zbc _ (.head _))]
 rw[show(o[i]==s)=false by simpa using hs];show(if s∈o.take i then some (D.agg []) else Option.none)=_;by_cases hm:s∈o.take i
 ·rw[zao hm,zao (zbr _ hm)]
 rw[zam hm,zam (λhh=>(zaE.1 hh).elim hm λh2=>hs (za0.1 h2).symm)]
theorem N6{g:List ak}{i:Nat}(hi:i<g.length):DL (g.take (i+1))=g[i].ops.foldl qJ (DL (g.take i)):=by unfold DL;rw[zag hi,zbG,za2];simp
theorem isU:cD PR 167 (.agg [])=true:=by kernel_rfl
section
variable{X:XF}{w0:World}(hX:du PR w0 X.cf)
include hX
theorem qg1:ND w0 95 qed:=ND.mk hX (H:=[]) (HN:=[]) (hk:=[(3,ah (aO 95 3) qdR)]) D5 (by kernel_rfl) (by kernel_rfl) .nil .nil (.loop (by decide) (qgL hX).T .nil) (by
 intro ps R ae hh;obtain⟨x,g,o,f,c,d,n,na,np,nh,nl,A,P,H,L,t,N,e,g1,g2,hc,hp⟩:=hh
 (rw[g1,g2,<-qiH];delta bP YP Ed Ee BO eu BP fu tL Z4f gh iz oQ jy jz nV qA jA gO jB gQ lu e7 eU eV dL eL dM cW dN TG fI Z7 vV ix iy Zab il cb eY)
 have hf:f (D.agg [D.int .i64 x.s.1,D.int .i64 x.s.2])=if x.s∈o then some (.agg []) else none:=hc.1 x.s
 rw[hf];by_cases hm:x.s∈o
 ·rw[zao hm];exact aq isU ⟨x,g,o,f,c,d,n,na,np,nh,nl,A,P,H,L,true,t,N,e,rfl,hc.2,λd' n' oJ oK oL bt A' P' H' L' g1 g2=>hp d' n' oJ oK oL bt A' P' H' L' (by unfold tlG;rw[zaT hm];exact g1) g2⟩
 rw[zam hm];exact aq isU ⟨x,g,o,f,c,d,n,na,np,nh,nl,A,P,H,L,false,t,N,e,rfl,hc.2,λd' n' oJ oK oL bt A' P' H' L' g1 g2=>hp d' n' oJ oK oL bt A' P' H' L' (by unfold tlG;rw[zaL hm];exact g1) g2⟩)
theorem qg2:LN w0 61 5 (ah (aO 61 5) qee):=LN.idx hX (H:=[(51,Ga)]) (HN:=[]) (hk:=[]) D5 (by kernel_rfl) (by kernel_rfl) (by kernel_rfl) (.cons qaT .nil) .nil .nil
 (A:=List ak) (B:=List ak×List az×Int) (λl b i=>vo5 l b.1 (b.1.map km) (cM b.2.1) b.2.2 i) (λl=>l.length) (λl i b=>mn l/\b.1=aI (l.take i)/\vZ b.2.1 b.1/\b.2.1.length<=i)
 (λl x=>x=(.exit 0,qgZ (aI l) ((aI l).map km)))
 (by
  rintro l ⟨o,U,c⟩ i ae h0 bQ bj ⟨hs,rfl,hU,Nn⟩ hn ho;dsimp only at*
  (rw[<-qbm];delta nZ T5 ql T6 Zg cW ij qi qj vw fM Zch Vu Zcg D4 Am fu XO BO Zc2 Zc3 K5 Zn fH Ds dq Zc0 ZbZ cb dH Zcf Zce XP Z7 Z4X Z4Y Z4T Za Z9 Z4S Zcd An Hv T7 T8 T9 zC Ua Lv Ub Nl Y8 wc Aw r9 BJ tL Zc4 Zc1 Zj XQ Zx jy jz jA gO jB gQ oR Je XR eM ko qk)
  have e1:D.nth (l.map aV) i.toNat=aV l[i.toNat]:=aA _ _ _ bj;rw[e1];have hsg:=hs.2 _ (zas bj);have s8:=pR bj;have lY:=dJ (l.take i.toNat);rw[zay] at lY;generalize l[i.toNat]=g at s8 hsg;have qv:=hs.1;have t1:D.agg [D.int .i64 (D.aj (D.ar (aV g) 0)),D.int .i64 (D.aj (D.ar (aV g) 1))]=bh g.s:=rfl;have v1: ∀n:Int,D.aj (iE n)=n:=λ_=>rfl;have g0:cF (cM U (bh g.s)) (.int .i64 0)=iE (U.count g.s:Int):=pQ U g.s;have G7:=zbW (a:=g.s) (l:=U);have u2:=λz=>Dr U g.s z;have u3:=λz=>Dq U g.s z;have g1:cF (cM (g.s::U) (bh g.s)) (.int .i64 0)= .int .i64 ((U.count g.s:Int)+1):=by have:=pQ (g.s::U) g.s;rw[zcc] at this;exact this
  have Aa:(U.count g.s:Int)=0↔ ¬g.s∈U:=by rw[<-zcT];omega
  have hcb:0<=(U.count g.s:Int)/\(U.count g.s:Int)<=1000000:=by have:=hs.1;omega
  generalize (U.count g.s:Int)=cn at g0 u2 u3 g1 Aa hcb;rw[t1,g0];simp only[v1];have gf:i<((l.map aV).length:Int):=by rw[zaa];exact bQ
  refine bM gf (ao ⟨h0,gf⟩ (aq (gi _) ⟨g,rfl,rfl,hsg,λe he=>Bk (λh1=>ao (by omega) (hn (aI (l.take i.toNat),U,c) ⟨hs,?_,hU,zcV Nn⟩)) λh1=> ?_⟩))
  ·rw[s8,Du];cases hg:ct g with
   |false=>rfl
   |true=>rw[hg] at he;exact absurd he h1
  have hg:ct g=true:=by
   cases hg:ct g with
   |true=>rfl
   |false=>rw[hg,zam (by simp)] at he;omega
  refine aq (Aq _) (ao (by omega) ?_);rw[u2,g1,u3];refine aq (Aq _) ?_;have v2: ∀n:Int,D.aj (D.int .i64 n)=n:=λ_=>rfl;simp only[v2];refine cE (λh2=>ao (by omega) (hn (aI (l.take i.toNat),g.s::U,_) ⟨hs,?_,hU.had ?_,zbZ Nn⟩)) λh2=> ?_
  ·have hx:g.s∈U:=zaN λh=>by have:=Aa.2 h;omega
   rw[s8,yK ((hU g.s).1 hx)]
  ·exact zaN λh=>by have:=Aa.2 h;omega
  have hx: ¬g.s∈U:=Aa.1 (by omega);have Ae:((aI (l.take i.toNat)).any λx=>x.s==g.s)=false:=by rw[<-zaP,<-hU g.s];exact hx
  have hy:=λc':Int=>hn (aI (l.take i.toNat)++[g],g.s::U,c') ⟨hs,by rw[s8,yL hg Ae],hU.new,zbZ Nn⟩;generalize aI (l.take i.toNat)=r at*
  have p0:List.take r.length (r.map aV)++[aV g]=(r++[g]).map aV:=cv aV r g;have p1:List.take (r.map km).length (((r.map km).map λx=>x.1).map bh)++[bh g.s]=(((r++[g]).map km).map λx=>x.1).map bh:=by rw[zai (by simp)];simp[km]
  have p2:List.take (r.map km).length (((r.map km).map λx=>x.2).map bh)++[bh g.bY]=(((r++[g]).map km).map λx=>x.2).map bh:=by rw[zai (by simp)];simp[km]
  have q0:(r++[g]).length=r.length+1:=by simp
  have q1:((r++[g]).map km).length=(r.map km).length+1:=by simp
  simp only[vo5,vw0,vwL,vwB,qC,l0] at hy;rw[<-p0,<-p1,<-p2,q0,q1] at hy;have hrl:(r.map km).length<=1000000:=by rw[zaa];omega
  have rm: ∀{α:Type} (f:α->D) (m:List α) (z:D) (b:Nat),m.length<=1000000->b<=100->(Nat.ble m.length (m.map f).length&&aM (m.length+List.length [z]) b)=true:=λf m z b hm hb=>ep rfl (by rw[zaa]) (by omega) hb;have rm1:(Nat.ble (r.map km).length (((r.map km).map λx=>x.1).map bh).length&&aM ((r.map km).length+List.length [bh g.s]) 16)=true:=ep rfl (by simp) (by omega) (by decide);have rm2:(Nat.ble (r.map km).length (((r.map km).map λx=>x.2).map bh).length&&aM ((r.map km).length+List.length [bh g.bY]) 16)=true:=ep rfl (by simp) (by omega) (by decide);exact aq (rm aV r _ 88 (by omega) (by decide)) (aq rm1 (aq rm2 (ao (by omega) (hy _)))))
 (by
  rintro l ⟨o,U,c⟩ i ae hi ⟨hs,rfl,hU,Nn⟩ ho;dsimp only at*
  (rw[<-qbm];delta nZ T5 ql T6 Zg cW ij qi qj vw fM Zch Vu Zcg D4 Am fu XO BO Zc2 Zc3 K5 Zn fH Ds dq Zc0 ZbZ cb dH Zcf Zce XP Z7 Z4X Z4Y Z4T Za Z9 Z4S Zcd An Hv T7 T8 T9 zC Ua Lv Ub Nl Y8 wc Aw r9 BJ tL Zc4 Zc1 Zj XQ Zx jy jz jA gO jB gQ oR Je XR eM ko qk)
  refine mq (by rw[zaa];omega) (ho _ (λh=>by cases h) ?_);rw[zak];rfl)
 (by rintro s ae ⟨l,rfl,hs,hp⟩;refine⟨l,([],[],0),by rw[Dp];rfl,⟨hs,rfl,vZ.nil,by simp⟩,?_⟩;rintro x rfl;exact hp _ _ rfl rfl)
theorem qei:LN w0 61 15 (ah (aO 61 15) Ud):=LN.idx hX (H:=[]) (HN:=[]) (hk:=[]) D5 (by kernel_rfl) (by kernel_rfl) (by kernel_rfl) .nil .nil .nil
 (A:=List ak×List az) (B:=(D->Option D)×Int) (λa b i=>qef a.1 a.2 b.1 b.2 i) (λa=>a.2.length) (λa i b=>a.2.length<=1000000/\GL b.1 (a.2.take i))
 (λa x=> ∃f c,GL f a.2/\x=(.exit 2,⟨98,[(3,.ref 0 0 0)],vw0 a.1 a.2 f c⟩))
 (by
  rintro⟨g,o⟩ ⟨f,c⟩ i ae h0 bQ bj ⟨hm,hO⟩ hn ho;dsimp only at*
  (rw[<-Uc];delta An cb dH Hn Hv T7 T8 T9 zC Ua Lv Ub Zcj Zg eL I5 Hg Al oI cW r9 BJ BO Zc2 eu BP fu tL Zci Zn Za Z9 Zj vU Le)
  have e1:D.nth (o.map bh) i.toNat=bh o[i.toNat]:=aA _ _ _ bj;have mA:=hO.go bj;rw[e1];refine bM bQ (ao ⟨h0,bQ⟩ (ao (by simpa using bj) (aq (jS _) (ao (by omega) (hn (_,_) ⟨hm,mA⟩))))))
 (by
  rintro⟨g,o⟩ ⟨f,c⟩ i ae hi ⟨hm,hO⟩ ho;dsimp only at*
  (rw[<-Uc];delta An cb dH Hn Hv T7 T8 T9 zC Ua Lv Ub Zcj Zg eL I5 Hg Al oI cW r9 BJ BO Zc2 eu BP fu tL Zci Zn Za Z9 Zj vU Le)
  rw[zak] at hO;exact mq (by omega) (ho _ (λh=>by cases h) ⟨f,c,hO,rfl⟩))
 (by rintro s ae ⟨g,o,rfl,hm,hp⟩;refine⟨(g,o),(Y7,0),rfl,⟨hm,GL.none⟩,?_⟩;rintro x ⟨f,c,h1,rfl⟩;exact hp f c h1)
theorem qej:LN w0 61 20 (ah (aO 61 20) Uf):=LN.idx hX (H:=[]) (HN:=[(95,qed)]) (hk:=[]) D5 (by kernel_rfl) (by kernel_rfl) (by kernel_rfl) .nil (.cons (qg1 hX) .nil) .nil
 (A:=List ak×List az×(D->Option D)×Int) (B:=GaB) (λa b i=>qeg a.1 a.2.1 a.2.2.1 a.2.2.2 b.1 b.2.1 b.2.2.1 b.2.2.2.1 b.2.2.2.2.1 b.2.2.2.2.2.1 b.2.2.2.2.2.2.1 b.2.2.2.2.2.2.2.1 b.2.2.2.2.2.2.2.2.1 b.2.2.2.2.2.2.2.2.2 i) (λa=>a.1.length)
 (λa i b=>(GL a.2.2.1 a.2.1/\a.1.length<=1000000/\ ∀x∈a.1,ct x=true)/\ra (wg a.2.1 (a.1.take i)) b.2.2.1 b.2.2.2.1 b.2.2.2.2.1 b.2.2.2.2.2.1 b.2.2.2.2.2.2.1 b.2.2.2.2.2.2.2.1 b.2.2.2.2.2.2.2.2.1 b.2.2.2.2.2.2.2.2.2/\lN b.1 (DL (a.1.take i)))
 (λa x=> ∃d n na np nh nl A P H L,ra (wg a.2.1 a.1) na np nh nl A P H L/\lN d (DL a.1)/\x=(.exit 4,⟨98,[(3,.ref 0 0 0)],vwL a.1 a.2.1 a.2.2.1 a.2.2.2 d n na np nh nl A P H L⟩))
 (by
  rintro⟨g,o,f,c⟩ ⟨d,n,na,np,nh,nl,A,P,H,L⟩ i ae h0 bQ bj ⟨hc,hR,hD⟩ hn ho;dsimp only at*
  (rw[<-Ue];delta cb dH Hn bP YP Ed eU Ee eV An eL oI cW r9 BJ TG BO eu BP fu tL Zcl Zn ot BK Za Z9 Zj Z4f e7 dL dM dN fI Zck jy jz jA gO jB gQ oR Je Zg ij D4 qi qj Am eM fH tJ vY Jp)
  have hB:=BF (on:=o) hc.2.2 i.toNat (by omega);have hN:df (g.take i.toNat)<=300000000:=by have h1:=qn g i.toNat;have h2:=DM hc.2.2;have h3:=hc.2.1;omega
  have e1:D.nth (g.map aV) i.toNat=aV g[i.toNat]:=aA _ _ _ bj;have oe:=hc.2.2 _ (zas bj);have kC:=s9 (on:=o) bj;have NS:=N6 bj;rw[e1];generalize g[i.toNat]=x at oe kC NS⊢;refine bM bQ (ao ⟨h0,bQ⟩ (ao (by simpa using bj) (aq (gi _) ⟨x,g,o,f,c,d,n,na,np,nh,nl,A,P,H,L,_,_,_,rfl,rfl,⟨hc.1,hR,hD,hB,hN,tf oe,tc oe⟩,λd' n' oJ oK oL bt A' P' H' L' g1 g2=>ao (by omega) (hn (d',n',oJ,oK,oL,bt,A',P',H',L') ⟨hc,by rw[kC];exact g1,by rw[NS];exact g2⟩)⟩))))
 (by
  rintro⟨g,o,f,c⟩ ⟨d,n,na,np,nh,nl,A,P,H,L⟩ i ae hi ⟨hc,hR,hD⟩ ho;dsimp only at*
  (rw[<-Ue];delta cb dH Hn bP YP Ed eU Ee eV An eL oI cW r9 BJ TG BO eu BP fu tL Zcl Zn ot BK Za Z9 Zj Z4f e7 dL dM dN fI Zck jy jz jA gO jB gQ oR Je Zg ij D4 qi qj Am eM fH tJ vY Jp)
  rw[zak] at hR hD;exact mq (by omega) (ho _ (λh=>by cases h) ⟨d,n,na,np,nh,nl,A,P,H,L,hR,hD,rfl⟩))
 (by rintro s ae ⟨g,o,f,c,rfl,hc,hp⟩;refine⟨(g,o,f,c),(Y7,0,0,0,0,0,[],[],[],[]),rfl,⟨hc,⟨rfl,rfl,rfl,rfl,rfl,rfl,rfl,rfl⟩,λz=>rfl⟩,?_⟩;rintro x ⟨d,n,na,np,nh,nl,A,P,H,L,g1,g2,rfl⟩;exact hp d n na np nh nl A P H L g1 g2)
theorem qg3:ND w0 61 qeh:=ND.mk hX (H:=[]) (HN:=[(94,qc0)]) (hk:=[(5,ah (aO 61 5) qee),(15,ah (aO 61 15) Ud),(20,ah (aO 61 20) Uf)]) D5 (by kernel_rfl) (by kernel_rfl) .nil (.cons (qin hX) .nil) (.loop (by decide) (qg2 hX).T (.loop (by decide) (qei hX).T (.loop (by decide) (qej hX).T .nil))) (by
 intro ps R ae hh;obtain⟨l,rfl,rfl,hs,hp⟩:=hh
 (rw[<-qiS];delta bP YP Ed eU Ee eV An eL oI cW r9 BJ TG BO eu BP fu tL Zcl cb ZaK mB Hv T7 T8 T9 zC Ua Lv Ub Zcj Zc2 Zci Z7 ot BK dH Zco rT Nl Y8 Zcn fM qm Zx ql nZ Z6h wc Aw OC Zc3 zD fH Ds dq ZbZ Zcm)
 have hl:=hs.1;have h1:=wV l;have h2:=dJ l;refine⟨l,rfl,hs,λg h hg hh=> ?_⟩;have tk1:List.take h.length ((h.map λx=>x.1).map bh)=(h.map λx=>x.1).map bh:=zai (by simp);have tk2:List.take h.length ((h.map λx=>x.2).map bh)=(h.map λx=>x.2).map bh:=zai (by simp);rw[tk1,tk2];refine⟨h,rfl,rfl,by rw[hh,zaa,hg];omega,λo ho=> ?_⟩;have gb:o=Jn l:=by rw[ho,hh,hg];rfl
 exact⟨g,o,rfl,by rw[gb];omega,λf c hf=>⟨g,o,f,c,rfl,⟨hf,by rw[hg];omega,by rw[hg];exact rO⟩,λd n na np nh nl A P H L g1 g2=>hp g o f c d n na np nh nl A P H L hg gb hf g1 g2⟩⟩)
theorem qbn:ND w0 35 JO:=ND.mk hX (H:=[]) (HN:=[(61,qeh)]) (hk:=[]) D5 (by kernel_rfl) (by kernel_rfl) .nil (.cons (qg3 hX) .nil) .nil (by
 intro ps R ae hh;obtain⟨l,rfl,rfl,hs,hp⟩:=hh
 (rw[<-qg0];delta eL oI Nr eu zA Zx cW dq Ec)
 exact⟨l,rfl,rfl,hs,λg o f c d n na np nh nl A P H L _ ho _ _ _=>hp o ho⟩)
end
theorem Ug{l:List ak}{t:Tl}(hc: ∀g∈l,ct g=true)(hn:(l.map (·.s)).Nodup):(T3 l t).length<=t.a.length:=
 zaI (DG hc hn _) (zaI (DF _) (wR _ _))
section
variable{X:XF}
theorem Y9:LD X 32 7 (ah (aO 32 7) qec):=LD.idx (H:=[(42,GA)]) (hk:=[(11,ah (aO 32 11) TQ)]) (by kernel_rfl) (by kernel_rfl) (.cons S2 .nil) (.cons TV .nil)
 (A:=List ak×List az) (B:=OfB) (λa b i=>of7 a.1 a.2 b.1 b.2.1 b.2.2.1 b.2.2.2.1 b.2.2.2.2.1 b.2.2.2.2.2.1 b.2.2.2.2.2.2.1 b.2.2.2.2.2.2.2 i) (λa=>a.1.length)
 (λa i b=>(a.1.length<=1000000/\a.2.length<=1000000/\ ∀g∈a.1,ct g=true)/\ra (wg a.2 (a.1.take i)) b.1 b.2.1 b.2.2.1 b.2.2.2.1 b.2.2.2.2.1 b.2.2.2.2.2.1 b.2.2.2.2.2.2.1 b.2.2.2.2.2.2.2)
 (λa x=> ∃na np nh nl A P H L,ra (wg a.2 a.1) na np nh nl A P H L/\x=(.exit 0,⟨140,[(0,.sl 0 0 a.1.length),(2,.ref 1 0 0),(3,.ref 7 0 0),(4,.sl 13 0 na),(5,.sl 14 0 np)],ofR a.1 a.2 nh nl A P H L⟩))
 (by
  rintro⟨m,o⟩ ⟨na,np,nh,nl,A,P,H,L⟩ i ae h0 bQ bj ⟨hc,hR⟩ hn ho
  try dsimp only at*
  rw[<-qbk];have hB:=BF (on:=o) hc.2.2 i.toNat (by omega);have hN:df (m.take i.toNat)<=300000000:=by have h1:=qn m i.toNat;have h2:=DM hc.2.2;have h3:=hc.1;omega
  have e1:D.nth (m.map aV) i.toNat=aV m[i.toNat]:=aA _ _ _ bj;have oe:=hc.2.2 _ (zas bj);have kC:=s9 (on:=o) bj;rw[e1];refine bM bQ (ao ⟨h0,bQ⟩ (ao (by rw[zaa];exact bj) (aq (gi _) ⟨o,m[i.toNat].s,rfl,rfl,hc.2.1,λb hb=>⟨m,o,na,np,nh,nl,A,P,H,L,i,b,_,_,bj,rfl,⟨hR,hB,hN,h0,tf oe,tc oe⟩,λoJ oK oL bt A' P' H' L' g1=>ao (by omega) (hn (oJ,oK,oL,bt,A',P',H',L') ⟨hc,by rw[kC];unfold tlG;rw[<-hb];exact g1⟩)⟩⟩))))
 (by
  rintro⟨m,o⟩ ⟨na,np,nh,nl,A,P,H,L⟩ i ae hi ⟨hc,hR⟩ ho
  try dsimp only at*
  rw[<-qbk];rw[zak] at hR;exact mq (by omega) (ho _ (λh=>by cases h) ⟨na,np,nh,nl,A,P,H,L,hR,rfl⟩))
 (by rintro s ae ⟨m,o,rfl,hc,hp⟩;refine⟨(m,o),(0,0,0,0,[],[],[],[]),rfl,⟨hc,⟨rfl,rfl,rfl,rfl,rfl,rfl,rfl,rfl⟩⟩,?_⟩;rintro x ⟨na,np,nh,nl,A,P,H,L,g1,rfl⟩;exact hp na np nh nl A P H L g1)
theorem qek:FD X 32 T4:=FD.mk (H:=[(40,vX),(44,qdy),(53,qdB),(55,qd2),(54,TJ),(57,S0),(56,DC)]) (hk:=[(7,ah (aO 32 7) qec)]) (by kernel_rfl) (.cons RV (.cons qgw (.cons qgx (.cons qgS (.cons qd7 (.cons qdv (.cons SM .nil))))))) (.cons Y9 .nil) (by
 intro ps R ae hh;obtain⟨l,rfl,rfl,hs,hp⟩:=hh
 (rw[<-qiR];delta eL eu T0 gu ib T1 BH Av ZaK fu mB jU ZaL cW dq iv ZbO pS lF lL rT zC Lv Vx TL Hv NV oI NW YZ Y0 NX NY NZ N0 wc Aw N1 N2 Z7 Jy Hw jE Hx oH tI ZbQ fM qm Z8H Jq ZbP Zx Ec)
 have hl:=hs.1.1;have h1:=wV l;have h2:=dJ l;have oe: ∀g∈aI l,ct g=true:=rO;have ky:=nX l;have Ax:df (aI l)<=1000:=zaI (Js l) hs.2;refine⟨l,rfl,rfl,hs.1,λm hm=> ?_⟩;have tm:List.take m.length (m.map aV)=m.map aV:=zai (by simp);rw[tm];refine⟨m,rfl,rfl,by rw[hm];omega,λh hh=> ?_⟩;have th:List.take h.length (h.map bN)=h.map bN:=zai (by simp);rw[th];refine⟨h,rfl,rfl,by rw[hh,zaa,hm];omega,λo ho=> ?_⟩;have gb:o=Jn l:=by rw[ho,hh,hm];rfl
 refine⟨m,o,rfl,⟨by rw[hm];omega,by rw[gb];omega,by rw[hm];exact oe⟩,λna np nh nl A P H L hR=> ?_⟩;have hB:=BF (on:=o) (l:=m) (by rw[hm];exact oe) m.length (zaj _);rw[zak,hm] at hB;have kq:=hB.mono Ax;rw[hm] at hR;obtain⟨t,ht⟩: ∃t,t=wg o (aI l):=⟨_,rfl⟩
 rw[<-ht] at hR kq;obtain⟨rfl,rfl,rfl,rfl,rfl,rfl,rfl,rfl⟩:=hR;have ta:List.take t.a.length (t.a.map bE)=t.a.map bE:=zai (by simp);have tp:List.take t.p.length (t.p.map bK)=t.p.map bK:=zai (by simp);have thh:List.take t.h.length (t.h.map jv)=t.h.map jv:=zai (by simp);have tg:List.take t.g.length (t.g.map jv)=t.g.map jv:=zai (by simp);have tn:List.take o.length (o.map bh)=o.map bh:=zai (by simp);have tk: ∀{α:Type} (f:α->D) (l:List α),List.take l.length (l.map f)=l.map f:=λf l=>zai (by simp);have b1:=kq.1;have b2:=kq.2.1;have b3:=kq.2.2.1;have b4:=kq.2.2.2;rw[ta,tp,thh,tg,tn,tm];refine⟨t.a,t.p,rfl,rfl,⟨by omega,b1.symm⟩,λq hq=> ?_⟩;rw[tk bK q];have hql:q.length<=t.a.length:=by rw[hq];exact zaI (DF _) (wR _ _)
 refine⟨m,q,rfl,rfl,⟨by omega,by rw[hm];omega,by rw[hm];exact oe,by rw[hm];exact ky⟩,λp Pn=>⟨t.h,t.g,rfl,rfl,⟨by omega,by omega⟩,λv hv=> ?_⟩⟩;rw[tk bK p,tk bE v];have Xs:p=T3 (aI l) t:=by rw[Pn,hq,hm];rfl
 have L6:p.length<=t.a.length:=by rw[Xs];exact Ug oe ky
 have hvl:v.length<=t.h.length:=by rw[hv];exact Lr _ _
 refine⟨p,v,rfl,rfl,⟨by omega,by omega⟩,?_⟩;rw[tk fw];exact hp o t p (jT (oP p) v) gb ht Xs (by rw[Xs,hv];rfl))
end
structure bx(i:Int)(l:List ak):Prop where
 Hy: ∀g∈l,ct g=true
 nd:(l.map (·.s)).Nodup
 sm: ∀g∈l,(1<=g.s.2/\g.s.2<=3)/\(g.s.1<=i/\g.n<=i)/\g.ops.length<=1/\ ∀o∈g.ops,o.text.length<=2/\o.elems.length<=3
 len:(l.length:Int)<=i
structure ov(i:Int)(l:List ak)(K:List (List Int)):Prop where
 len:K.length=3
 vec: ∀v∈K,cQ v=true/\ ∀r,eG v r<=i
 own: ∀g∈l,g.n<=eG (K.getD (g.s.2-1).toNat []) g.s.2
 top: ∀v∈K,∀r,1<=r->r<=3->eG v r<=eG (K.getD (r-1).toNat []) r
structure jx(i:Int)(K:List (List Int))(r:Int)(v:List Int):Prop where
 vec:cQ v=true/\ ∀q,eG v q<=i
 own:eG v r=eG (K.getD (r-1).toNat []) r
 top: ∀q,1<=q->q<=3->eG v q<=eG (K.getD (q-1).toNat []) q
def aT(l:List ak)(v:List Int):List ak:=l.filter λg=>decide (g.n<=eG v g.s.2)
theorem za{v:List Int}(h:cQ v=true)(r:Int):0<=eG v r:=by
 unfold cQ at h;rw[zah] at h;unfold eG;split
 ·exact zbA _
 rw[zac];cases hk:v[(r-1).toNat]? with
 |none=>exact zbA _
 |some x=>exact h.1 x (zaC hk)
theorem n9{v:List Int}(h:cQ v=true):v.length<=16:=by unfold cQ at h;rw[zah] at h;exact h.2.1
theorem uB{v:List Int}(h1: ∀n∈v,0<=n)(h2:v.length<=16):cQ (bq v)=true:=by unfold cQ;rw[zah];refine⟨λn hn=>h1 n (zbq hn),?_,by rw[FH]⟩;rw[nR];have:=pD v v.length;omega
theorem BQ(v:List Int)(r:Int):eG (bq v) r=eG v r:=by
 by_cases h:1<=r
 ·rw[lU _ h,lU _ h,yj]
 unfold eG;rw[zao (by omega),zao (by omega)]
theorem Zd{n:Nat}{f:Nat->Int}{r:Int}(h:1<=r):eG (oF n f) r=if(r-1).toNat<n then f (r-1).toNat else 0:=by rw[lU _ h,sT]
theorem r0{n:Nat}{f:Nat->Int}(h: ∀i,0<=f i): ∀x∈oF n f,0<=x:=by intro x hx;unfold oF at hx;obtain⟨i,_,rfl⟩:=zaA.1 hx;exact h i
theorem Z5{v:List Int}{r n:Int}(h1:1<=r)(q:Int)(hq:1<=q):eG (bq (gK v r n)) q=if q=r then n else eG v q:=by
 rw[BQ];unfold gK;rw[Zd hq];have e:(((q-1).toNat:Nat):Int)+1=q:=by omega
 simp only[e];split
 ·rfl
 rename_i h;rw[zam (by omega),lU _ hq,nS (by omega)]
theorem LH{v:List Int}{q:Int}(h:q<1):eG v q=0:=by unfold eG;rw[zao (by omega)]
theorem Uh{v:List Int}{r n:Int}(hv:cQ v=true)(h1:1<=r)(h2:r<=16)(hn:0<=n):cQ (bq (gK v r n))=true:=by
 refine uB (r0 λi=> ?_) ?_
 ·split
  ·exact hn
  exact za hv _
 unfold gK;rw[FB];have:=n9 hv;omega
theorem zb(v w:List Int)(q:Int)(hq:1<=q):eG (mh v w) q=max (eG v q) (eG w q):=by unfold mh;rw[BQ,lU _ hq,QD,<-lU _ hq,<-lU _ hq]
theorem BR{v w:List Int}(hv:cQ v=true)(hw:cQ w=true):cQ (mh v w)=true:=by
 refine uB (r0 λi=> ?_) ?_
 ·have:=za hv ((i:Int)+1);omega
 unfold WN;rw[FB];have:=n9 hv;have:=n9 hw;omega
theorem jx.start{i:Int}{l:List ak}{K:List (List Int)}(h:ov i l K){r:Int}(h1:1<=r)(h2:r<=3):jx i K r (K.getD (r-1).toNat []):=by
 have hm:K.getD (r-1).toNat []∈K:=by rw[zac,zae (by rw[h.len];omega)];exact zas _
 exact⟨h.vec _ hm,rfl,λq h3 h4=>h.top _ hm q h3 h4⟩
theorem jx.merge{i:Int}{l:List ak}{K:List (List Int)}(h:ov i l K){r:Int}(h1:1<=r)(h2:r<=3){v w:List Int}(hv:jx i K r v)(hw:w∈K):jx i K r (mh v w):=by
 have hww:=h.vec _ hw;refine⟨⟨BR hv.vec.1 hww.1,λq=> ?_⟩,?_,λq h3 h4=> ?_⟩
 ·by_cases hq:1<=q
  ·rw[zb _ _ _ hq];have:=hv.vec.2 q;have:=hww.2 q;omega
  have:=hww.2 q;rw[LH (by omega)] at this⊢;exact this
 ·rw[zb _ _ _ h1,<-hv.own];have:=h.top _ hw r h1 h2;rw[<-hv.own] at this;omega
 rw[zb _ _ _ h3];have:=h.top _ hw q h3 h4;have:=hv.top q h3 h4;omega
def fO(l:List ak)(v:List Int)(r:Int):az:=(jD (aT l v)+1,r)
structure zd(l:List ak)(v:List Int)(r:Int)(g:ak):Prop where
 s:g.s=fO l v r
 n:g.n=eG v r+1
 deps:g.deps=v
 body:(∃x∈aT l v,g.bY=x.s/\g.ops=[])\/(g.bY=(0,0)/\ ∃o m,g.ops=[o]/\jR g.s 0 o=some m/\o.text.length<=2/\o.elems.length<=3)
theorem wW{s:az}:FX s=true↔1<=s.1/\s.1<=1099511627776/\1<=s.2/\s.2<=16:=by show uc s.1 s.2=true↔_;unfold uc;rw[zah]
theorem oa{a b:az}:lW a b=true↔a.1<b.1\/a.1=b.1/\a.2<b.2:=by show rK a.1 a.2 b.1 b.2=true↔_;unfold rK;rw[zah]
theorem DN{g:ak}(h:ct g=true):FX g.s=true/\(1<=g.n/\g.n<=1099511627776)/\cQ g.deps=true/\eG g.deps g.s.2=g.n-1:=by unfold ct Q6 at h;simp only[zab,zah,zaR] at h;exact⟨h.1.1.1.1,h.1.1.1.2,h.1.1.2,h.1.2⟩
theorem iX{l:List ak}{v:List Int}{g:ak}:g∈aT l v↔g∈l/\g.n<=eG v g.s.2:=by unfold aT;rw[zbT,zah]
theorem bx.jD{i:Int}{l:List ak}(h:bx i l)(hi:0<=i)(v:List Int):0<=jD (aT l v)/\jD (aT l v)<=i:=
 ⟨(ml _).1,Jm hi _ λg hg=>(h.sm g (iX.1 hg).1).2.1.1⟩
theorem zd.Hy{i:Int}{l:List ak}{K:List (List Int)}{v:List Int}{r:Int}{g:ak}(hl:bx i l)(hi:0<=i/\i<=1000)(h1:1<=r)(h2:r<=3)(hv:jx i K r v)(h:zd l v r g):ct g=true:=by
 have hm:=hl.jD hi.1 v;have ha:=za hv.vec.1 r;have hb:=hv.vec.2 r;have hs:g.s.1=jD (aT l v)+1/\g.s.2=r:=by rw[h.s];exact⟨rfl,rfl⟩
 unfold ct Q6;have hh:(FX g.s&&decide (1<=g.n/\g.n<=1099511627776)&&cQ g.deps&&(eG g.deps g.s.2==g.n-1))=true:=by rw[h.deps,h.n,hv.vec.1,hs.2];simp only[zab,zah,zaR,zc4];refine⟨⟨wW.2 (by omega),by omega⟩,by omega⟩
 rw[hh,zaQ];rcases h.body with⟨x,hx,hu,ho⟩| ⟨hu,o,m,ho,EH,_⟩
 ·have Ae:=iX.1 hx;have hr:=(DN (hl.Hy x Ae.1)).1;have hr2:=wW.1 hr;have hx3:=(ml (aT l v)).2 x hx;rw[hu,zao (λe=>by have:=congrArg Prod.fst e;simp only at this;omega),hr,ho];simp only[zaQ,zat,zbl,zbv];exact oa.2 (.inl (by omega))
 rw[hu,zam (by simp),ho];simp only[zap,zat,iu,EH,zbv,zah];omega
theorem zd.new{i:Int}{l:List ak}{K:List (List Int)}{v:List Int}{r:Int}{g:ak}(_:bx i l)(hK:ov i l K)(hv:jx i K r v)(_:zd l v r g): ∀x∈l,x.s.2=r->x∈aT l v:=by intro x hx hr;refine iX.2 ⟨hx,?_⟩;have:=hK.own x hx;rw[hr] at this⊢;rw[hv.own];exact this
theorem zd.qcs{i:Int}{l:List ak}{K:List (List Int)}{v:List Int}{r:Int}{g:ak}(hl:bx i l)(hK:ov i l K)(hi:0<=i/\i<=1000)(h1:1<=r)(h2:r<=3)(hv:jx i K r v)(h:zd l v r g):
  bx (i+1) (l++[g])/\ov (i+1) (l++[g]) (K.set (r-1).toNat (bq (gK v r (eG v r+1)))):=by
 have hm:=hl.jD hi.1 v;have ha:=za hv.vec.1 r;have hb:=hv.vec.2 r;have hs:g.s.1=jD (aT l v)+1/\g.s.2=r:=by rw[h.s];exact⟨rfl,rfl⟩
 have hgn:=h.n;have hc:=h.Hy hl hi h1 h2 hv;have hw:cQ (bq (gK v r (eG v r+1)))=true:=Uh hv.vec.1 h1 (by omega) (by omega);have hwa:=λq hq=>Z5 (v:=v) (n:=eG v r+1) h1 q hq;have hlen:=hK.len;have pb: ∀q:Int,1<=q->q<=3->(K.set (r-1).toNat (bq (gK v r (eG v r+1)))).getD (q-1).toNat []=if q=r then bq (gK v r (eG v r+1)) else K.getD (q-1).toNat []:=by
  intro q h3 h4;rw[zac];split
  next e=>rw[e,zbO (by omega)];rfl
  rename_i e;rw[zaX (by omega),zac]
 refine⟨⟨?_,?_,?_,?_⟩,⟨by simp[hlen],?_,?_,?_⟩⟩
 ·intro x hx;rcases zaE.1 hx with hx |hx
  ·exact hl.Hy x hx
  rw[za0.1 hx];exact hc
 ·rw[zaz,zaU];refine⟨hl.nd,by simp,λa ha2 b cr e=> ?_⟩;simp only[zbm,List.map_nil,za0] at cr;subst cr;obtain⟨x,hx,hxe⟩:=zaA.1 ha2;have VY:x.s=g.s:=hxe.trans e;have hk:=h.new hl hK hv x hx (by rw[VY];exact hs.2);have:=(ml (aT l v)).2 x hk;rw[VY] at this;omega
 ·intro x hx;rcases zaE.1 hx with hx |hx
  ·obtain⟨a,b,c⟩:=hl.sm x hx;exact⟨a,by omega,c⟩
  rw[za0.1 hx];refine⟨by omega,by omega,?_⟩;rcases h.body with⟨y,_,_,ho⟩| ⟨_,o,m,ho,_,h5,h6⟩
  ·rw[ho];exact⟨by simp,λo ho=>by cases ho⟩
  rw[ho];exact⟨by simp,λo' gb=>by rw[za0.1 gb];exact⟨h5,h6⟩⟩
 ·have:=hl.len;rw[zan,zcH];omega
 ·intro u hu;rcases zda hu with hu |rfl
  ·exact⟨(hK.vec u hu).1,λq=>by have:=(hK.vec u hu).2 q;omega⟩
  refine⟨hw,λq=> ?_⟩;by_cases hq:1<=q
  ·rw[hwa q hq];have:=hv.vec.2 q;split<;>omega
  rw[LH (by omega)];omega
 ·intro x hx;rcases zaE.1 hx with hx |hx
  ·obtain⟨a,_,_⟩:=hl.sm x hx;rw[pb _ a.1 a.2];have h3:=hK.own x hx;split
   next e=>rw[e,hwa r h1,zao rfl];rw[e,<-hv.own] at h3;omega
   exact h3
  rw[za0.1 hx,hs.2,pb r h1 h2,zao rfl,hwa r h1,zao rfl];omega
 intro u hu q h3 h4;rw[pb q h3 h4];rcases zda hu with hu |rfl
 ·have h5:=hK.top u hu q h3 h4;split
  next e=>rw[hwa q h3,zao e];rw[e] at h5⊢;rw[<-hv.own] at h5;omega
  exact h5
 split
 ·exact zbA _
 rename_i e;rw[hwa q h3,zam e];exact hv.top q h3 h4
theorem Ui:bx 0 []/\ov 0 [] [[],[],[]]:=by
 refine⟨⟨(λ_ h=>by cases h),by simp,(λ_ h=>by cases h),by simp⟩,⟨rfl,?_,(λ_ h=>by cases h),?_⟩⟩
 ·intro v hv;have:v=[]:=by simpa using hv
  subst this;refine⟨by decide,λr=> ?_⟩;unfold eG;split<;>simp
 intro v hv r h1 h2;have:v=[]:=by simpa using hv
 subst this;have e:eG [] r=0:=by unfold eG;split<;>simp
 have h3:([[],[],[]]:List (List Int)).getD (r-1).toNat []=[]:=by
  have key: ∀n:Nat,([[],[],[]]:List (List Int)).getD n []=[]:=λn=>by
   match n with
   |0=>rfl
   |1=>rfl
   |2=>rfl
   |_+3=>rfl
  exact key _
 rw[h3];exact zbA _
theorem op1{i:Int}{l:List ak}(hl:bx i l){g:ak}(hg:g∈l){o:aX}(ho:o∈g.ops): ∃m,jR g.s 0 o=some m:=by
 have h1:=(hl.sm g hg).2.2.1;have h2:=Dz (hl.Hy g hg);cases Ax:g.ops with
 |nil=>rw[Ax] at ho;cases ho
 |cons a r=>
  rw[Ax] at h1 ho h2;have hr:r=[]:=by simpa using h1
  subst hr;rw[za0.1 ho];unfold iu at h2;split at h2
  ·exact⟨_,by assumption⟩
  cases h2
theorem Uj{s t:az}{k:Int}(ht:FX t=true)(bI:t.1<s.1)(h0:0<=k)(hk:k<=400000):cV s 0 (t.1,t.2,k)=true:=by have:=wW.1 ht;unfold cV;rw[zab,zba];refine⟨?_,.inl (oa.2 (.inl bI))⟩;show cu t.1 t.2 k=true;unfold cu;rw[zah];omega
def ig(l:List ak)(x:av):Prop:= ∃g∈l,FY x=g.s/\0<=x.2.2/\x.2.2<=1000
theorem ig.ahead{i:Int}{l:List ak}(hl:bx i l){v:List Int}{r:Int}{x:av}(h:ig (aT l v) x):cV (fO l v r) 0 x=true:=by obtain⟨g,hg,hs,h0,h1⟩:=h;have hg2:=iX.1 hg;have:=(ml (aT l v)).2 g hg;have hrg:=(DN (hl.Hy g hg2.1)).1;have Ck:x.1=g.s.1:=congrArg Prod.fst hs;have Ae:x.2.1=g.s.2:=congrArg Prod.snd hs;have hh:=Uj (s:=fO l v r) hrg (show g.s.1<jD (aT l v)+1 by omega) h0 (by omega);obtain⟨a,b,c⟩:=x;simp only at Ck Ae;rw[Ck,Ae];exact hh
theorem ig.par{i:Int}{l:List ak}(hl:bx i l){v:List Int}{r:Int}{x:av}(h:x=aB\/ig (aT l v) x):lj (fO l v r) 0 x=true:=by
 unfold lj;rcases h with rfl |h
 ·simp
 rw[h.ahead hl,Bool.or_true]
theorem Uk{i:Int}{l:List ak}(hl:bx i l){g:ak}(hg:g∈l){o:aX}(ho:o∈g.ops)(hk:o.kind=0):ig l o.node:=by obtain⟨m,hm⟩:=op1 hl hg ho;obtain⟨h1,_⟩:=Gz hm hk;exact⟨g,hg,by rw[h1],by rw[h1];exact zbA _,by rw[h1];show(0:Int)<=1000;decide⟩
theorem LI{s:az}{k n:Int}{o:aX}(h:jR s k o=some n)(h0:o.kind=3):o.elem=(s.1,s.2,k):=by
 unfold jR at h;rw[zam (by omega: ¬o.kind=0),zam (by omega: ¬o.kind=1),zam (by omega: ¬o.kind=2),zao h0] at h;split at h
 ·cases h
 split at h
 next hh=>exact hh.2.2.1
 cases h
theorem Ul{i:Int}{l:List ak}(hl:bx i l){g:ak}(hg:g∈l){o:aX}(ho:o∈g.ops)(hk:o.kind=3){k:Int}(h0:0<=k)(h1:k<=1000):ig l (o.elem.1,o.elem.2.1,o.elem.2.2+k):=by obtain⟨m,hm⟩:=op1 hl hg ho;have h2:=LI hm hk;rw[h2];exact⟨g,hg,rfl,by show 0<=0+k;omega,by show 0+k<=1000;omega⟩
def qL(s:az)(p:av)(nm:List UInt8)(d:Bool):aX:=⟨0,(s.1,s.2,0),p,nm,d,[],aB,aB,[],[]⟩
def Um(x p:av)(nm:List UInt8):aX:=⟨1,x,p,nm,false,[],aB,aB,[],[]⟩
def Un(x:av)(d:List az):aX:=⟨2,x,aB,[],false,d,aB,aB,[],[]⟩
def qaa(s:az)(x a:av)(t:List UInt8):aX:=⟨3,x,aB,[],false,[],a,(s.1,s.2,0),t,[]⟩
def qab(x:av)(e:List av):aX:=⟨4,x,aB,[],false,[],aB,aB,[],e⟩
section
variable{i:Int}{l:List ak}(hl:bx i l){v:List Int}{r:Int}
include hl
theorem LJ{p:av}(hp:p=aB\/ig (aT l v) p){nm:List UInt8}(hn:dw nm=true)(d:Bool):jR (fO l v r) 0 (qL (fO l v r) p nm d)=some 1:=by have h1:=ig.par hl (r:=r) hp;simp[jR,qL,eX,js,h1,hn]
theorem qac{x p:av}(hx:ig (aT l v) x)(hp:p=aB\/ig (aT l v) p){nm:List UInt8}(hn:dw nm=true):jR (fO l v r) 0 (Um x p nm)=some 0:=by have h1:=ig.par hl (r:=r) hp;have h2:=hx.ahead hl (r:=r);simp[jR,Um,eX,js,h1,h2,hn]
theorem qad{x:av}(hx:ig (aT l v) x){d:List az}(hd: ∀s∈d,∃g∈aT l v,g.s=s)(hs:d.Pairwise λa b=>lW a b=true)(hln:d.length<=200):jR (fO l v r) 0 (Un x d)=some 0:=by
 have h2:=hx.ahead hl (r:=r);have h3:mS (fO l v r) d=true:=by
  unfold mS;rw[zab,zah];refine⟨ui λk hk=> ?_,hln⟩;unfold lK;have hg:d.getD k (0,0)=d[k]:=by rw[zac,zae hk];rfl
  obtain⟨g,hgm,hgs⟩:=hd _ (zas hk);have hg2:=iX.1 hgm;have h4:=(ml (aT l v)).2 g hgm;rw[hg,<-hgs];rw[zab,zab,zba];refine⟨⟨(DN (hl.Hy g hg2.1)).1,?_⟩,?_⟩
  ·rw[zbu,<-zaP,oa];show ¬(jD (aT l v)+1<g.s.1\/jD (aT l v)+1=g.s.1/\r<g.s.2);omega
  by_cases h0:k=0
  ·exact .inl (by simp[h0])
  refine .inr ?_;have GZ:d.getD (k-1) (0,0)=d[k-1]:=by rw[zac,zae (by omega)];rfl
  rw[GZ,hgs];exact zbh.1 hs (k-1) k (by omega) hk (by omega)
 simp[jR,Un,eX,js,h2,h3]
theorem qae{x a:av}(hx:ig (aT l v) x)(ha:a=aB\/ig (aT l v) a){t:List UInt8}(ht:mT t=true):jR (fO l v r) 0 (qaa (fO l v r) x a t)=some (Ag t):=by have h1:=ig.par hl (r:=r) ha;have h2:=hx.ahead hl (r:=r);simp[jR,qaa,eX,js,h1,h2,ht]
theorem qaf{x:av}(hx:ig (aT l v) x){e:List av}(he: ∀y∈e,ig (aT l v) y)(hs:e.Pairwise λa b=>mj a b=true)(h1:1<=e.length)(h3:e.length<=3):jR (fO l v r) 0 (qab x e)=some 0:=by
 have h2:=hx.ahead hl (r:=r);have h4:sX (fO l v r) 0 e=true:=by
  unfold sX;rw[zab,zah];refine⟨ui λk hk=> ?_,by omega⟩;unfold Br;have hg:e.getD k aB=e[k]:=by rw[zac,zae hk];rfl
  rw[hg,zab,zba];refine⟨(he _ (zas hk)).ahead hl,?_⟩;by_cases h0:k=0
  ·exact .inl (by simp[h0])
  refine .inr ?_;have GZ:e.getD (k-1) aB=e[k-1]:=by rw[zac,zae (by omega)];rfl
  rw[GZ];exact zbh.1 hs (k-1) k (by omega) hk (by omega)
 simp[jR,qab,eX,js,h2,h4]
end
abbrev bO:=av×av×List UInt8
abbrev gN:=av×av×List UInt8
def pV(t:List UInt8):List (List UInt8):=if Lib.validD t=true then Hf t else []
def zI(r:bO)(k:Nat):av:=(r.2.1.1,r.2.1.2.1,r.2.1.2.2+k)
def elA(r:bO):Nat->av
 |0=>r.1
 |k+1=>zI r k
def Uo(o:List gN)(x a:av)(p:List UInt8):List gN:=if x=aB\/(o.any λe=>e.1==x)=true then o else o++[(x,a,p)]
def LK(r:bO)(o:List gN)(l:List (List UInt8)):List gN:=l.zipIdx.foldl (λo p=>Uo o (zI r p.2) (elA r p.2) p.1) o
def elR(o:List gN)(r:bO):List gN:=LK r o (pV r.2.2)
def GM(l:List bO):List gN:=l.foldl elR []
theorem ze{r:bO}{o:List gN}{l:List (List UInt8)}{i:Nat}(h:i<l.length):LK r o (l.take (i+1))=Uo (LK r o (l.take i)) (zI r i) (elA r i) l[i]:=by unfold LK;rw[zag h,List.zipIdx_append,za2];simp[zay,zce (Nat.le_of_lt h)]
theorem zf{l:List bO}{i:Nat}(h:i<l.length):GM (l.take (i+1))=elR (GM (l.take i)) l[i]:=by unfold GM;rw[zag h,za2];rfl
theorem qag(o:List gN)(x a:av)(p:List UInt8):(Uo o x a p).length<=o.length+1:=by
 unfold Uo;split
 ·omega
 simp
theorem DO{r:bO}{o:List gN}{l:List (List UInt8)}: ∀i,i<=l.length->(LK r o (l.take i)).length<=o.length+i
 |0,_=>by simp[LK]
 |i+1,hi=>by rw[ze (by omega)];have:=qag (LK r o (l.take i)) (zI r i) (elA r i) (l[i]'(by omega));have:=DO (r:=r) (o:=o) (l:=l) i (by omega);omega
def GN(R:List bO)(o:List gN):Prop:=(o.map (·.1)).Nodup/\ ∀e∈o,e.1≠aB/\ ∃r∈R,∃k,k<(pV r.2.2).length/\e.1=zI r k/\e.2.1=elA r k
theorem GN.step{R:List bO}{o:List gN}(h:GN R o){r:bO}(hr:r∈R){k:Nat}(hk:k<(pV r.2.2).length)(p:List UInt8):GN R (Uo o (zI r k) (elA r k) p):=by
 unfold Uo;split
 ·exact h
 rename_i hn;refine⟨?_,λe he=> ?_⟩
 ·rw[zaz,zaU];refine⟨h.1,by simp,λa ha b hb e=> ?_⟩;rw[show b=zI r k by simpa using hb] at e;obtain⟨y,hy,hye⟩:=zaA.1 ha;exact hn (.inr (zbz.2 ⟨y,hy,by simpa using hye.trans e⟩))
 rcases zaE.1 he with he |he
 ·exact h.2 e he
 rw[za0.1 he];exact⟨λe=>hn (.inl e),r,hr,k,hk,rfl,rfl⟩
theorem GN.run{R:List bO}{o:List gN}(h:GN R o){r:bO}(hr:r∈R): ∀i,i<=(pV r.2.2).length->GN R (LK r o ((pV r.2.2).take i))
 |0,_=>by simpa [LK] using h
 |i+1,hi=>by rw[ze (by omega)];exact(GN.run h hr i (by omega)).step hr (by omega) _
theorem JR{l:List bO}: ∀i,i<=l.length->GN l (GM (l.take i))
 |0,_=>⟨by simp[GM],λe he=>by simp[GM] at he⟩
 |i+1,hi=>by rw[zf (by omega)];have:=(JR (l:=l) i (by omega)).run (zas (show i<l.length by omega)) (pV (l[i]'(by omega)).2.2).length (zaj _);rwa [zak] at this
def Hz(l:List bO):Nat:=(l.map λr=>(pV r.2.2).length).sum
theorem BS{l:List bO}{i:Nat}(h:i<l.length):Hz (l.take (i+1))=Hz (l.take i)+(pV l[i].2.2).length:=by unfold Hz;rw[zag h,zaz,List.sum_append];simp only[zbm,List.map_nil,List.sum_cons,List.sum_nil,zbQ]
theorem Ur(l:List bO)(i:Nat):Hz (l.take i)<=Hz l:=by
 have:Hz l=Hz (l.take i)+Hz (l.drop i):=by unfold Hz;rw[<-List.sum_append,<-zaz,zbR]
 omega
theorem wX{l:List bO}: ∀i,i<=l.length->(GM (l.take i)).length<=Hz (l.take i)
 |0,_=>by simp[GM]
 |i+1,hi=>by rw[zf (by omega),BS (by omega)];have h1:=wX (l:=l) i (by omega);have h2:=DO (r:=l[i]'(by omega)) (o:=GM (l.take i)) (l:=pV (l[i]'(by omega)).2.2) _ (zaj _);rw[zak] at h2;unfold elR;omega
theorem zg{α β:Type}(f:α->β){l:List α}(h:(l.map f).Nodup):l.Nodup:=List.Pairwise.of_map f (λ_ _ h e=>h (congrArg f e)) h
def gtE(a b:gN):Bool:=mj b.1 a.1
def GO(all:List gN)(x:av):List gN:=cj gtE (all.filter λe=>e.2.1==x)
theorem tq{all:List gN}{x:av}{e:gN}:e∈GO all x↔e∈all/\e.2.1=x:=by unfold GO;rw[(b9 _).mem_iff,zbT,zaR]
structure JS(all o w:List gN):Prop where
 nd:((o++w).map (·.1)).Nodup
 sub: ∀e∈o++w,e∈all/\(e.2.1=aB\/ ∃y∈o,y.1=e.2.1)
theorem JS.len{all o w:List gN}(h:JS all o w):o.length+w.length<=all.length:=by have h1:(o++w).Nodup:=zg _ h.nd;have:=h1.length_le_of_subset (l₂:=all) λe he=>(h.sub e he).1;rwa [zan] at this
theorem JS.step{all o w:List gN}{x:gN}(ha:(all.map (·.1)).Nodup)(hr: ∀e∈all,e.1≠aB)(h:JS all o (x::w)):JS all (o++[x]) (GO all x.1++w):=by
 have hx:=h.sub x (zbc _ (.head _));have ky:=h.nd;have e1:o++x::w=o++[x]++w:=by simp
 rw[e1] at ky;have jN: ∀e∈o++[x]++w,e∈all/\(e.2.1=aB\/ ∃y∈o,y.1=e.2.1):=λe he=>h.sub e (by rwa [e1]);have hxo: ∀y∈o,y.1≠x.1:=by intro y hy e;rw[zaz,zaz,zaU] at ky;have:=(zaU.1 ky.1).2.2 y.1 (za7 hy) x.1 (by simp);exact this e
 have fY: ∀e∈GO all x.1,e∉o++[x]++w:=by
  intro e he bj;obtain⟨_,h2⟩:=tq.1 he;rcases(jN e bj).2 with h3 | ⟨y,hy,h3⟩
  ·exact hr x hx.1 (by rw[<-h2,h3])
  exact hxo y hy (by rw[h3,h2])
 have hb:(GO all x.1).Nodup:=by unfold GO;exact(b9 _).nodup_iff.2 (zcf.nodup (zg _ ha))
 have key: ∀L:List gN,L.Nodup->(∀e∈L,e∈all)->(L.map (·.1)).Nodup:=by
  intro L
  induction L with
  |nil=>exact λ_ _=>by simp
  |cons a r ih=>intro h1 h2;rw[za8] at h1;rw[zbm,za8];refine⟨λhm=> ?_,ih h1.2 λe he=>h2 e (.tail _ he)⟩;obtain⟨y,hy,e⟩:=zaA.1 hm;have:=pN ha y (h2 y (.tail _ hy)) a (h2 a (.head _)) e;exact h1.1 (this▸hy)
 refine⟨key _ ?_ ?_,?_⟩
 ·have hold:(o++[x]++w).Nodup:=zg _ ky;rw[zaU] at hold⊢;refine⟨hold.1,?_,λa ha2 b cr e=> ?_⟩
  ·rw[zaU];refine⟨hb,hold.2.1,λa ha2 b cr e=> ?_⟩;subst e;exact fY a ha2 (zbc _ cr)
  subst e;rcases zaE.1 cr with cr |cr
  ·exact fY a cr (zbr _ ha2)
  exact hold.2.2 a ha2 a cr rfl
 ·intro e he;rcases zaE.1 he with he |he
  ·exact(jN e (zbr _ he)).1
  rcases zaE.1 he with he |he
  ·exact(tq.1 he).1
  exact(jN e (zbc _ he)).1
 intro e he;have hold: ∀e,e∈o++[x]++w->e∈all/\(e.2.1=aB\/ ∃y∈o++[x],y.1=e.2.1):=by
  intro e he;obtain⟨h1,h2⟩:=jN e he;refine⟨h1,?_⟩;rcases h2 with h2 | ⟨y,hy,h2⟩
  ·exact .inl h2
  exact .inr ⟨y,zbr _ hy,h2⟩
 rcases zaE.1 he with he |he
 ·exact hold e (zbr _ he)
 rcases zaE.1 he with he |he
 ·obtain⟨h1,h2⟩:=tq.1 he;exact⟨h1,.inr ⟨x,zbc _ (.head _),h2.symm⟩⟩
 exact hold e (zbc _ he)
theorem JS.start{all:List gN}(ha:(all.map (·.1)).Nodup):JS all [] (GO all aB):=by
 refine⟨?_,λe he=> ?_⟩
 ·rw[zbg];unfold GO;exact((b9 _).map _).nodup_iff.2 (List.Nodup.sublist ((zcf).map _) ha)
 rw[zbg] at he;obtain⟨h1,h2⟩:=tq.1 he;exact⟨h1,.inl h2⟩
theorem bx.known{i:Int}{l:List ak}(h:bx i l)(v:List Int):bx i (aT l v):=
 ⟨λg hg=>h.Hy g (iX.1 hg).1,(zcf.map _).nodup h.nd,λg hg=>h.sm g (iX.1 hg).1,by have:=za5 (λg:ak=>decide (g.n<=eG v g.s.2)) l;have:=h.len;unfold aT;omega⟩
theorem bx.mono{i:Int}{l:List ak}(h:bx i l):bx (i+1) l:=⟨h.Hy,h.nd,λg hg=>by have:=h.sm g hg;grind,by have:=h.len;omega⟩
theorem ov.mono{i:Int}{l:List ak}{K:List (List Int)}(h:ov i l K):ov (i+1) l K:=⟨h.len,λv hv=>⟨(h.vec v hv).1,λr=>by have:=(h.vec v hv).2 r;omega⟩,h.own,h.top⟩
theorem bx.df{i:Int}{l:List ak}(h:bx i l):Pi.df l<=l.length:=by
 have key: ∀m:List ak,(∀g∈m,g.ops.length<=1)->Pi.df m<=m.length:=λm=>by
  induction m with
  |nil=>simp[lx]
  |cons g r ih=>grind [iV]
 exact key l λg hg=>(h.sm g hg).2.2.1
def DP(x:av)(o:aX):List bO:=if o.kind=3/\o.node=x then [(o.after,o.elem,o.text)] else []
def tu(x:av)(l:List aX):List bO:=l.flatMap (DP x)
def fy(l:List ak)(x:av):List bO:=l.flatMap λg=>tu x g.ops
theorem Us(x:av)(o:aX):(DP x o).length<=1:=by unfold DP;split<;>simp
theorem zh(x:av): ∀l:List aX,(tu x l).length<=l.length
 | []=>zaj _
 |o::l=>by have h1:=Us x o;have h2:=zh x l;grind [tu]
theorem qp(x:av): ∀l:List ak,(fy l x).length<=df l
 | []=>zaj _
 |g::l=>by have h1:=zh x g.ops;have h2:=qp x l;grind [fy,iV]
theorem GP{l:List ak}{x:av}{r:bO}(h:r∈fy l x): ∃g∈l,∃o∈g.ops,o.kind=3/\r=(o.after,o.elem,o.text):=by obtain⟨g,hg,hr⟩:=zcw.1 h;obtain⟨o,ho,hr⟩:=zcw.1 hr;grind [DP]
def JT(l:List ak)(x:av):List av:=cj mj ((GM (fy l x)).map (·.1))
theorem zi(t:List UInt8):(pV t).length<=t.length:=by grind [pV,C9]
theorem GQ{i:Int}{l:List ak}(hl:bx i l){x y:av}(h:y∈JT l x):ig l y:=by obtain⟨e,he,rfl⟩:=zaA.1 ((b9 _).mem_iff.1 h);have:=(JR (l:=fy l x) _ (zaj _)).2;rw[zak] at this;obtain⟨_,r,hr,k,hk,h1,_⟩:=this e he;obtain⟨g,hg,o,ho,h3,rfl⟩:=GP hr;have hp:=zi o.text;have ht:=((hl.sm g hg).2.2.2 o ho).1;rw[h1];exact Ul hl hg ho h3 (Int.natCast_nonneg k) (by grind)
theorem qah{l:List av}(h:l.Nodup):(cj mj l).Pairwise λa b=>mj a b=true:=by refine((FT qaR l).and ((b9 l).nodup_iff.2 h)).imp λ{a b} Ot=> ?_;rw[<-zcu];exact λe=>Ot.2 (qaR.ri _ _ e Ot.1)
theorem N7(l:List ak)(x:av):(JT l x).Pairwise λa b=>mj a b=true:=by have:=(JR (l:=fy l x) _ (zaj _)).1;rw[zak] at this;exact qah this
def OJ(g:List bf)(x:av)(o:List az)(d:bf):List az:=if d.1≠x\/d∈g\/d.2∈o then o else cL lW o d.2
def sP(h g:List bf)(x:av):List az:=h.foldl (OJ g x) []
theorem DQ{h g:List bf}{x:av}{i:Nat}(hi:i<h.length):sP (h.take (i+1)) g x=OJ g x (sP (h.take i) g x) h[i]:=by grind [sP,List.take_succ_eq_append_getElem]
structure OfR(h:List bf)(o:List az):Prop where
 sub: ∀s∈o,∃d∈h,d.2=s
 qg4:o.Pairwise λa b=>lW a b=true
theorem N8{o:List az}(h:o.Pairwise λa b=>lW a b=true){s:az}(hs:s∉o):(cL lW o s).Pairwise λa b=>lW a b=true:=by
 have hn:(o++[s]).Nodup:=by
  rw[zaU];refine⟨h.imp λ{a b} Ot e=> ?_,by simp,λa ha b hb e=> ?_⟩
  ·rw[e,lX.Ky] at Ot;cases Ot
  grind
 refine((KS lX s (h.imp λ{a b} Ot=>lX.asymm Ot)).and ((gL o s).nodup_iff.2 hn)).imp λ{a b} Ot=> ?_;rw[<-zcu];exact λe=>Ot.2 (lX.ri _ _ e Ot.1)
theorem OfR.step{h:List bf}{o:List az}(ho:OfR h o)(g:List bf)(x:av){d:bf}(hd:d∈h):OfR h (OJ g x o d):=by
 unfold OJ;split
 ·exact ho
 rename_i hc;refine⟨λs hs=> ?_,N8 ho.qg4 λhm=>hc (.inr (.inr hm))⟩;rcases zaE.1 ((gL o d.2).mem_iff.1 hs) with h1 |h1
 ·exact ho.sub s h1
 grind
theorem qbo{h g:List bf}{x:av}: ∀i,i<=h.length->OfR h (sP (h.take i) g x)
 |0,_=>⟨λs hs=>by simp[sP] at hs,by simp[sP]⟩
 |i+1,hi=>by rw[DQ (by omega)];exact(qbo i (by omega)).step g x (zas _)
theorem qai(g:List bf)(x:av)(o:List az)(d:bf):(OJ g x o d).length<=o.length+1:=by grind [OJ,lv]
theorem DR{h g:List bf}{x:av}: ∀i,i<=h.length->(sP (h.take i) g x).length<=i
 |0,_=>by simp[sP]
 |i+1,hi=>by rw[DQ (by omega)];have:=qai g x (sP (h.take i) g x) (h[i]'(by omega));have:=DR (h:=h) (g:=g) (x:=x) i (by omega);omega
theorem Ut{on:List az}{l:List ak}: ∀i,i<=l.length-> ∀d∈(wg on (l.take i)).h,∃g∈l,g.s=d.2
 |0,_,d,hd=>by simp[wg,tl0] at hd
 |i+1,hi,d,hd=>by
  rw[s9 (by omega)] at hd;have key: ∀(b:Bool) (s:az) (m:List aX) (t:Tl),d∈(Gq b s m t).h->d∈t.h\/d.2=s:=by
   intro b s m;have: ∀(m:List (aX×Nat)) (t:Tl),d∈(m.foldl (λt p=>Sg b s t p.1 p.2) t).h->d∈t.h\/d.2=s:=by
    intro m
    induction m with
    |nil=>grind
    |cons p m ih=>grind [Sg]
   exact λt h=>this _ t h
  rcases key _ _ _ _ hd with h |h
  ·exact Ut i (by omega) d h
  grind
theorem qaj{i:Int}{l:List ak}(hl:bx i l)(hi:i<=100){on:List az}{g:List bf}{x:av}:(∀s∈sP (wg on l).h g x,∃y∈l,y.s=s)/\(sP (wg on l).h g x).Pairwise (λa b=>lW a b=true)/\(sP (wg on l).h g x).length<=200:=by
 have hr:=qbo (h:=(wg on l).h) (g:=g) (x:=x) _ (zaj _);have hn:=DR (h:=(wg on l).h) (g:=g) (x:=x) _ (zaj _);rw[zak] at hr hn;refine⟨λs hs=> ?_,hr.qg4,?_⟩
 ·obtain⟨d,hd,rfl⟩:=hr.sub s hs;exact Ut (on:=on) (l:=l) l.length (zaj _) d (by rw[zak];exact hd)
 have hb:=(BF (on:=on) hl.Hy l.length (zaj _)).2.2.1;rw[zak] at hb;have:=hl.df;have:=hl.len;omega
def r1(b:Bool)(l:List aX):List av:=(l.filter λo=>o.kind==0&&(o.dir==b)).map (·.node)
def tv(b:Bool)(l:List ak):List av:=l.flatMap λg=>r1 b g.ops
theorem LL{i:Int}{l:List ak}(hl:bx i l){b:Bool}{y:av}(h:y∈tv b l):ig l y:=by obtain⟨g,hg,hy⟩:=zcw.1 h;obtain⟨o,ho,rfl⟩:=zaA.1 hy;grind [Uk]
theorem GR(b:Bool)(l:List aX):(r1 b l).length<=l.length:=by grind [r1]
theorem nb(b:Bool): ∀l:List ak,(tv b l).length<=df l
 | []=>zaj _
 |g::l=>by have h1:=GR b g.ops;have h2:=nb b l;grind [tv,iV]
def OpW(l:List ak)(v:List Int)(r:Int)(o:aX):Prop:=(∃m,jR (fO l v r) 0 o=some m)/\o.text.length<=2/\o.elems.length<=3
def lB(r:bO):D:= .agg [iE r.1.1,iE r.1.2.1,iE r.1.2.2,iE r.2.1.1,iE r.2.1.2.1,iE r.2.1.2.2,.str r.2.2]
abbrev JU(l:List bO):P:= .d (.sl 7 (l.map lB))
abbrev Uu(z:Bool)(l:List bO):Obj:= .arr 165 z (l.map lB)
abbrev wj(z:Bool)(l:List gN):Obj:= .arr 112 z (l.map lB)
abbrev uC(x:av):Obj:= .box 50 [iD x.1,iD x.2.1,iD x.2.2]
abbrev qak(z:Bool)(l:List (List UInt8)):Obj:= .arr 9 z (l.map D.str)
def AtG(l:List ak)(i:Int)(g:ak):Prop:=D.nth (l.map aV) i.toNat=aV g
def AtR(l:List bO)(i:Int)(r:bO):Prop:=D.nth (l.map lB) i.toNat=lB r
abbrev rn9(l:List ak)(x:av)(o:List bO)(i:Int):S:=⟨53,[(0,bT l),(3,.ref 0 0 0),(5,.sl 1 0 o.length),(6,iD i)],[(0,⟨0,none,uC x⟩),(1,⟨0,none,Uu false o⟩)]⟩
abbrev qal(l:List ak)(x:av)(o:List bO)(i k:Int):S:=⟨53,[(0,bT l),(3,.ref 0 0 0),(5,.sl 1 0 o.length),(6,iD i),(7,iD k)],[(0,⟨0,none,uC x⟩),(1,⟨0,none,Uu false o⟩)]⟩
def Zcr(o:List bO):En:=En.mk 0 none (Obj.arr (165:TypeId) false (List.map lB o))
def Zcs(x:av)(o:List bO):List (Nat×En):=[wh x,(1,Zcr o)]
def Zcq(o:List bO):Nat×P:=(5,P.sl 1 0 (List.length o))
def Zct(k:Int)(ae:PX×S->Prop)(l:List ak)(o:List bO)(i:Int)(x:av):Prop:=bif Zj k then ae (PX.normal,S.mk 53 (gj l::dH::Zcq o::ZK i::ZL k) (Zcs x o)) else False
def Zcp(l:List ak)(i:Int)(k:Int):List D:=[D.agg [D.int .i64 (D.aj (D.ar (lA l i k) 10)),D.int .i64 (D.aj (D.ar (lA l i k) 11)),D.int .i64 (D.aj (D.ar (lA l i k) 12)),D.int .i64 (D.aj (D.ar (lA l i k) 13)),D.int .i64 (D.aj (D.ar (lA l i k) 14)),D.int .i64 (D.aj (D.ar (lA l i k) 15)),D.str (D.eJ (D.ar (lA l i k) 16))]]
theorem qbp(l:List ak)(x:av)(o:List bO)(i k:Int)(ae:PX×S->Prop):(bif ko i l then bif eM l i then bif decide (k<NU l i) then bif ko i l then bif eM l i then bif Hu k l i then bif Ht l i k then bif Hs l i k==(3:Int) then bif D.aj (D.ar (lA l i k) 1)==Prod.fst x&&(D.aj (D.ar (lA l i k) 2)==ia x&&true)&&(D.aj (D.ar (lA l i k) 3)==gR x&&true) then bif Nat.ble (List.length o) (List.length (List.map lB o))&&aM (List.length o+List.length (Zcp l i k)) 64 then bif Zj k then ae (PX.normal,S.mk 53 (gj l::dH::(5,P.sl 1 0 (List.length o+List.length (Zcp l i k)))::ZK i::ZL k) [wh x,(1,En.mk 0 none (Obj.arr (165:TypeId) false (List.take (List.length o) (List.map lB o)++Zcp l i k)))]) else False else False else Zct k ae l o i x else Zct k ae l o i x else False else False else False else False else ae (PX.exit 2,S.mk 53 (gj l::dH::Zcq o::JE i) (Zcs x o)) else False else False)=(aG [] [] 59 6 (qal l x o i k)) ae:=by kernel_rfl
def Uv:S->K (PX×S):=λs ae=> ∃(l:List ak) (x:av) (o:List bO) (i:Int) (g:ak),AtG l i g/\s=qal l x o i 0/\(0<=i/\i<l.length/\o.length+g.ops.length<=1000000)/\ ∀o',o'=o++tu x g.ops->ae (.exit 2,rn9 l x o' i)
theorem qbq(l:List ak)(x:av)(o:List bO)(i:Int)(ae:PX×S->Prop):(bif qk i l then∃(au:List ak) (aJ:av) (aP:List bO) (aH:Int) (g:ak),AtG au aH g/\S.mk 53 (gj l::dH::Zcq o::ZK i::rI) (Zcs x o)=S.mk 53 (gj au::dH::Zcq aP::ZK aH::rI) (Zcs aJ aP)/\((0:Int)<=aH/\aH<ot au/\List.length aP+List.length (ak.ops g)<=1000000)/\ ∀(o':List bO),o'=aP++tu aJ (ak.ops g)->bif Zj aH then ae (PX.normal,S.mk 53 (gj au::dH::Zcq o'::ZA aH) (Zcs aJ o')) else False else ae (PX.exit 0,S.mk 53 [(5,P.sl 0 0 (List.length o))] [(0,Zcr o)]))=(aG [] [(6,ah (aO 59 6) Uv)] 59 3 (rn9 l x o i)) ae:=by kernel_rfl
def qel:S->K (PX×S):=λs ae=> ∃l x,s=rn9 l x [] 0/\(l.length<=1000000/\df l<=1000)/\ ∀o,o=fy l x->ae (.exit 0,⟨53,[(5,.sl 0 0 o.length)],[(0,⟨0,none,Uu false o⟩)]⟩)
def Zcv(au:List ak):Prop:=mB au/\df au<=1000
def Zcu(l:List ak)(x:av):S:=S.mk 53 (gj l::dH::Z7E) [wh x,(1,En.mk 0 none (Obj.arr (165:TypeId) false []))]
theorem qiT(l:List ak)(x:av)(ae:P×List (Nat×En)->Prop):(∃(au:List ak) (aJ:av),Zcu l x=Zcu au aJ/\Zcv au/\ ∀(o:List bO),o=fy au aJ->ae (P.sl 0 0 (List.length o),[(0,Zcr o)]))=(aK [] [(3,ah (aO 59 3) qel)] 59 [bT l,.d (bE x)] []) ae:=by kernel_rfl
def qem:br:=λps R ae=> ∃l x,ps=[bT l,.d (bE x)]/\R=[]/\(l.length<=1000000/\df l<=1000)/\ ∀o,o=fy l x->ae (.sl 0 0 o.length,[(0,⟨0,none,Uu false o⟩)])
abbrev qam(h g:List bf)(x:av)(o:List az)(n:Nat)(i k:Int):S:=⟨84,[(0,iW h),(1,iW g),(5,.ref 0 0 0),(7,.sl 1 0 n),(8,iD i),(9,iD k)],[(0,⟨0,none,uC x⟩),(1,⟨0,none,l0 false o⟩)]⟩
abbrev of9(h g:List bf)(x:av)(o:List az)(i:Int):S:=⟨84,[(0,iW h),(1,iW g),(5,.ref 0 0 0),(7,.sl 1 0 o.length),(8,iD i)],[(0,⟨0,none,uC x⟩),(1,⟨0,none,l0 false o⟩)]⟩
def Zcx(x:av)(o:List az):List (Nat×En):=[wh x,(1,oI o)]
def Zcw(o:List az)(k:Int):List D:=List.set (eL o) (Zg k) (D.aW (D.agg (Al o k)) (Xo o k))
theorem qen(h g:List bf)(x:av)(o:List az)(n:Nat)(i k:Int)(ae:PX×S->Prop):(bif Zr k then bif mC k n then bif Le k o then bif vU o k then bif Zb k then bif wQ k n then bif decide (Zc k<List.length (eL o)) then bif Xp o k then∃(a:az) (b:az),[P.d (D.agg (Al o k)),P.d (D.agg (Xo o k))]=Da a b/\Zx/\ ∀(r:Bool),r=lW a b->bif r then bif Zb k then bif Zb k then bif wQ k n then bif decide (Zc k<List.length (eL o)) then bif Xp o k then bif mC k n then bif Le k o then bif vU o k then bif mC k n then bif Le k o then bif vU o k then bif wQ k n then bif decide (Zc k<List.length (Zcw o k)) then bif cD PR (30:TypeId) (D.nth (Zcw o k) (Zc k)) then bif Zb k then ae (PX.normal,S.mk 84 (sd h::wS g::yQ::(7,P.sl 1 0 n)::vB i::Z7Q k) [wh x,(1,En.mk 0 none (Obj.arr (30:TypeId) false (List.set (Zcw o k) (Zc k) (D.aW (D.agg [D.int .i64 (D.aj (D.ar (D.nth (Zcw o k) (Zc k)) 0)),D.int .i64 (D.aj (D.ar (D.nth (Zcw o k) (Zc k)) 1))]) (Al o k)))))]) else False else False else False else False else False else False else False else False else False else False else False else False else False else False else False else ae (PX.exit 2,S.mk 84 (sd h::wS g::yQ::(7,P.sl 1 0 n)::NL i) (Zcx x o)) else False else False else False else False else False else False else False else ae (PX.exit 2,S.mk 84 (sd h::wS g::yQ::(7,P.sl 1 0 n)::NL i) (Zcx x o)))=(aG [(14,pK)] [] 79 8 (qam h g x o n i k)) ae:=by kernel_rfl
def Uw:S->K (PX×S):=λst ae=> ∃h g x o y n i k,st=qam h g x (o++[y]) n i k/\(k=(o.length:Int)/\n=o.length+1/\o.length<=1000000)/\ ∀o',o'=cL lW o y->ae (.exit 2,of9 h g x o' i)
def Zcz(o:List az)(h:List bf)(i:Int):Nat:=eu o+List.length [D.agg (Z8n h i)]
def Zcy(i:Int)(ae:PX×S->Prop)(h:List bf)(g:List bf)(o:List az)(x:av):Prop:=bif Zj i then ae (PX.normal,S.mk 84 (sd h::wS g::yQ::(7,P.sl 1 0 (eu o))::qG i) (Zcx x o)) else False
theorem Ux(h g:List bf)(x:av)(o:List az)(i:Int)(ae:PX×S->Prop):(bif Ys i h then bif NK i h then bif NJ h i then bif !(D.aj (D.ar (yT h i) 0)==Prod.fst x&&(D.aj (D.ar (yT h i) 1)==ia x&&true)&&(D.aj (D.ar (yT h i) 2)==gR x&&true)) then Zcy i ae h g o x else bif NK i h then bif NJ h i then∃(l:List bf) (aJ:bf),Z8o g h i l aJ/\Zx/\BH l/\ ∀(b:Bool),b=decide (aJ∈l)->bif b then Zcy i ae h g o x else bif NK i h then bif NJ h i then∃(l:List az) (x_2:az),[zA o,P.d (D.agg (Z8n h i))]=zA l::qg x_2/\D7 o=D7 l/\rT l/\ ∀(b:Bool),VP b l x_2->bif b then bif Zj i then ae (PX.normal,S.mk 84 (sd h::wS g::yQ::(7,P.sl 1 0 (eu o))::qG i) (Zcx x l)) else False else bif NK i h then bif NJ h i then bif Nat.ble (eu o) (List.length (eL l))&&aM (Zcz o h i) 16 then bif decide (Z9<=(↑(Zcz o h i):Int)-(1:Int)/\(↑(Zcz o h i):Int)-(1:Int)<=Za) then∃(qI:List bf) (aQ:List bf) (x_3:av) (aP:List az) (y:az) (n:Nat) (aH:Int) (k:Int),S.mk 84 [sd h,wS g,yQ,(7,P.sl 1 0 (Zcz o h i)),vB i,(9,P.d (D.int .i64 ((↑(Zcz o h i):Int)-(1:Int))))] [wh x,(1,En.mk 0 none (Obj.arr (30:TypeId) false (List.take (eu o) (eL l)++[D.agg (Z8n h i)])))]=S.mk 84 [sd qI,wS aQ,yQ,(7,P.sl 1 0 n),vB aH,Z7U k] [wh x_3,(1,En.mk 0 none (Obj.arr (30:TypeId) false (List.map bh (aP++[y]))))]/\(k=(↑(eu aP):Int)/\n=eu aP+1/\rT aP)/\ ∀(o':List az),o'=cL lW aP y->Zcy aH ae qI aQ o' x_3 else False else False else False else False else False else False else False else False else False else False else ae (PX.exit 0,S.mk 84 [(7,zA o)] (Nr o)))=(aG [(92,SP),(42,GA)] [(8,ah (aO 79 8) Uw)] 79 3 (of9 h g x o i)) ae:=by kernel_rfl
def qeo:S->K (PX×S):=λs ae=> ∃h g x,s=of9 h g x [] 0/\(h.length<=1000000/\g.length<=1000000)/\ ∀o,o=sP h g x->ae (.exit 0,⟨84,[(7,.sl 0 0 o.length)],[(0,⟨0,none,l0 false o⟩)]⟩)
def ZcA(h:List bf)(g:List bf)(x:av):S:=S.mk 84 (sd h::wS g::yQ::(7,zD)::Jx) [wh x,(1,wc)]
theorem qg5(h g:List bf)(x:av)(ae:P×List (Nat×En)->Prop):(∃(qI:List bf) (aQ:List bf) (aJ:av),ZcA h g x=ZcA qI aQ aJ/\(BH qI/\BH aQ)/\ ∀(o:List az),o=sP qI aQ aJ->ae (zA o,Nr o))=(aK [] [(3,ah (aO 79 3) qeo)] 79 [iW h,iW g,.d (bE x)] []) ae:=by kernel_rfl
def qep:br:=λps R ae=> ∃h g x,ps=[iW h,iW g,.d (bE x)]/\R=[]/\(h.length<=1000000/\g.length<=1000000)/\ ∀o,o=sP h g x->ae (.sl 0 0 o.length,[(0,⟨0,none,l0 false o⟩)])
abbrev el9(l:List bO)(o:List gN)(i:Int):S:=⟨86,[(0,JU l),(3,.sl 0 0 o.length),(4,iD i)],[(0,⟨0,none,wj false o⟩)]⟩
abbrev Uy(l:List bO)(o:List gN)(p:List (List UInt8))(a:av)(i k:Int):S:=⟨86,[(0,JU l),(3,.sl 0 0 o.length),(4,iD i),(5,.sl 1 0 p.length),(7,.ref 2 0 0),(8,iD k)],[(0,⟨0,none,wj false o⟩),(1,⟨0,none,qak false p⟩),(2,⟨0,none,uC a⟩)]⟩
abbrev qeq(l:List bO)(o:List gN)(p:List (List UInt8))(a x:av)(h:Bool)(i k j:Int):S:=⟨86,[(0,JU l),(3,.sl 0 0 o.length),(4,iD i),(5,.sl 1 0 p.length),(7,.ref 2 0 0),(8,iD k),(9,.ref 3 0 0),(10,.d (.bool h)),(11,iD j)],[(0,⟨0,none,wj false o⟩),(1,⟨0,none,qak false p⟩),(2,⟨0,none,uC a⟩),(3,⟨0,none,uC x⟩)]⟩
def uD(o:List gN):Nat×En:=(0,En.mk 0 none (Obj.arr (112:TypeId) false (List.map lB o)))
def ZcH(o:List gN)(p:List (List UInt8))(a:av)(x:av):List (Nat×En):=[uD o,KP p,(2,oS a),(3,oS x)]
def ZcF:Nat×P:=(9,P.ref 3 0 0)
def HA:Nat×P:=(7,sc)
def JV(p:List (List UInt8)):Nat×P:=(5,P.sl 1 0 (List.length p))
def Eh(o:List gN):Nat×P:=(3,P.sl 0 0 (List.length o))
def BT(l:List bO):Nat×P:=(0,P.d (D.sl 7 (List.map lB l)))
theorem Uz(l:List bO)(o:List gN)(p:List (List UInt8))(a x:av)(h:Bool)(i k j:Int)(ae:PX×S->Prop):(bif decide (j<(↑(List.length o):Int)) then bif h then bif Zj j then ae (PX.normal,S.mk 86 (BT l::Eh o::nq i::JV p::HA::vB k::ZcF::(10,ZO)::Z4M j) (ZcH o p a x)) else False else bif decide ((0:Int)<=j/\j<(↑(List.length o):Int)) then bif decide (Zg j<List.length (List.map lB o)) then bif cD PR (112:TypeId) (D.nth (List.map lB o) (Zg j)) then bif Zj j then ae (PX.normal,S.mk 86 (BT l::Eh o::nq i::JV p::HA::vB k::ZcF::(10,P.d (D.bool (D.aj (D.ar (D.nth (List.map lB o) (Zg j)) 0)==Prod.fst x&&(D.aj (D.ar (D.nth (List.map lB o) (Zg j)) 1)==ia x&&true)&&(D.aj (D.ar (D.nth (List.map lB o) (Zg j)) 2)==gR x&&true))))::Z4M j) (ZcH o p a x)) else False else False else False else False else ae (PX.exit 4,S.mk 86 [BT l,Eh o,nq i,JV p,HA,vB k,ZcF,(10,gh h)] (ZcH o p a x)))=(aG [] [] 107 13 (qeq l o p a x h i k j)) ae:=by kernel_rfl
def UA:S->K (PX×S):=λs ae=> ∃l o p a x h i k,s=qeq l o p a x h i k 0/\o.length<=1000000/\ ∀b,b=(h ||o.any λe=>e.1==x)->ae (.exit 4,⟨86,[(0,JU l),(3,.sl 0 0 o.length),(4,iD i),(5,.sl 1 0 p.length),(7,.ref 2 0 0),(8,iD k),(9,.ref 3 0 0),(10,.d (.bool b))],[(0,⟨0,none,wj false o⟩),(1,⟨0,none,qak false p⟩),(2,⟨0,none,uC a⟩),(3,⟨0,none,uC x⟩)]⟩)
def ZcK(x:av)(kF:av)(l4:List (List UInt8))(bS:Int):List D:=[D.agg [gD x,gC x,gP x,gD kF,gC kF,gP kF,D.str (D.eJ (D.nth (List.map D.str l4) (Zg bS)))]]
def Ay(l:List bO)(i:Int):D:=D.nth (List.map lB l) (Zg i)
def ZcI(i:Int)(l:List bO):Bool:=decide ((0:Int)<=i/\i<(↑(List.length (List.map lB l)):Int))
theorem UB(l:List bO)(o:List gN)(p:List (List UInt8))(a:av)(i k:Int)(ae:PX×S->Prop):(bif decide (k<(↑(List.length p):Int)) then bif ZcI i l then bif cD PR (165:TypeId) (Ay l i) then bif ZcI i l then bif cD PR (165:TypeId) (Ay l i) then bif decide (Z9<=D.aj (D.ar (Ay l i) 5)+k/\D.aj (D.ar (Ay l i) 5)+k<=Za) then∃(au:List bO) (aP:List gN) (l4:List (List UInt8)) (kF:av) (x:av) (h:Bool) (aH:Int) (bS:Int),S.mk 86 (BT l::Eh o::nq i::JV p::HA::vB k::ZcF::(10,P.d (D.bool (D.aj (D.ar (Ay l i) 3)==(0:Int)&&(D.aj (D.ar (Ay l i) 4)==(0:Int)&&true)&&(D.aj (D.ar (Ay l i) 5)+k==(0:Int)&&true))))::Z50) [uD o,KP p,(2,oS a),(3,En.mk 0 none (Obj.box (50:TypeId) [P.d (D.int .i64 (D.aj (D.ar (Ay l i) 3))),P.d (D.int .i64 (D.aj (D.ar (Ay l i) 4))),P.d (D.int .i64 (D.aj (D.ar (Ay l i) 5)+k))]))]=S.mk 86 (BT au::Eh aP::nq aH::JV l4::HA::vB bS::ZcF::(10,gh h)::Z50) (ZcH aP l4 kF x)/\List.length aP<=1000000/\ ∀(b:Bool),b=(h ||List.any aP λ(e:gN)=>Prod.fst e==x)->bif lr b then bif decide ((0:Int)<=bS/\bS<(↑(List.length l4):Int)) then bif decide (Zg bS<List.length (List.map D.str l4)) then bif cD PR (9:TypeId) (D.nth (List.map D.str l4) (Zg bS)) then bif Nat.ble (List.length aP) (List.length (List.map lB aP))&&aM (List.length aP+List.length (ZcK x kF l4 bS)) 64 then bif Zj bS then ae (PX.normal,S.mk 86 (BT au::(3,P.sl 0 0 (List.length aP+List.length (ZcK x kF l4 bS)))::nq aH::JV l4::HA::qG bS) ((0,En.mk 0 none (Obj.arr (112:TypeId) false (List.take (List.length aP) (List.map lB aP)++ZcK x kF l4 bS)))::KP l4::Yb x)) else False else False else False else False else False else bif Zj bS then ae (PX.normal,S.mk 86 (BT au::Eh aP::nq aH::JV l4::HA::qG bS) (uD aP::KP l4::Yb x)) else False else False else False else False else False else False else ae (PX.exit 2,S.mk 86 (BT l::Eh o::Ap i) [uD o]))=(aG [] [(13,ah (aO 107 13) UA)] 107 8 (Uy l o p a i k)) ae:=by kernel_rfl
def UC:S->K (PX×S):=λs ae=> ∃l o p r i,s=Uy l o p r.1 i 0/\(0<=i/\i<l.length/\l.length<=1000000/\p.length<=100000/\o.length+p.length<=1000000/\(0<=r.2.1.2.2/\r.2.1.2.2<=1000000000000))/\AtR l i r/\ ∀o',o'=LK r o p->ae (.exit 2,el9 l o' i)
def ZcN(aH:Int)(au:List bO)(p:List (List UInt8))(aP:List gN)(r:bO)(ae:PX×S->Prop):Prop:=((0:Int)<=aH/\aH<(↑(List.length au):Int)/\List.length au<=1000000/\List.length p<=100000/\List.length aP+List.length p<=1000000/\(0:Int)<=Prod.snd (Prod.snd (Prod.fst (Prod.snd r)))/\Prod.snd (Prod.snd (Prod.fst (Prod.snd r)))<=(1000000000000:Int))/\AtR au aH r/\ ∀(o':List gN),o'=LK r aP p->bif Zj aH then ae (PX.normal,S.mk 86 (BT au::Eh o'::vr aH) [uD o']) else False
def ZcM(au:List bO)(aP:List gN)(aH:Int)(p:List (List UInt8))(r:bO):S:=S.mk 86 (BT au::Eh aP::nq aH::JV p::HA::Jx) [uD aP,KP p,(2,En.mk 0 none (Obj.box (50:TypeId) [P.d (D.int .i64 (Prod.fst (Prod.fst r))),P.d (D.int .i64 (Prod.fst (Prod.snd (Prod.fst r)))),P.d (D.int .i64 (Prod.snd (Prod.snd (Prod.fst r))))]))]
def ZcL(l:List bO)(i:Int):List (Nat×En):=[(2,En.mk 0 none (Obj.box (50:TypeId) [P.d (D.int .i64 (D.aj (D.ar (Ay l i) 0))),P.d (D.int .i64 (D.aj (D.ar (Ay l i) 1))),P.d (D.int .i64 (D.aj (D.ar (Ay l i) 2)))]))]
theorem UD(l:List bO)(o:List gN)(i:Int)(ae:PX×S->Prop):(bif decide (i<(↑(List.length (List.map lB l)):Int)) then bif ZcI i l then bif cD PR (165:TypeId) (Ay l i) then∃(s:List UInt8),[P.d (D.str (D.eJ (D.ar (Ay l i) 6)))]=vi s/\Zx/\Hc s/\(QU s->bif ZcI i l then bif cD PR (165:TypeId) (Ay l i) then∃(au:List bO) (aP:List gN) (p:List (List UInt8)) (r:bO) (aH:Int),S.mk 86 (BT l::Eh o::nq i::(5,zD)::HA::Jx) (uD o::(1,Z1Q)::ZcL l i)=ZcM au aP aH p r/\ZcN aH au p aP r ae else False else False)/\(QT s-> ∀(aP:List (List UInt8)),aP=Hf s->bif ZcI i l then bif cD PR (165:TypeId) (Ay l i) then∃(au:List bO) (T2:List gN) (p:List (List UInt8)) (r:bO) (aH:Int),S.mk 86 (BT l::Eh o::nq i::JV aP::HA::Jx) (uD o::KP aP::ZcL l i)=ZcM au T2 aH p r/\ZcN aH au p T2 r ae else False else False) else False else False else ae (PX.exit 0,S.mk 86 [Eh o] [uD o]))=(aG [(144,sY)] [(8,ah (aO 107 8) UC)] 107 3 (el9 l o i)) ae:=by kernel_rfl
def mx(l:List bO):Prop:=l.length<=1000000/\Hz l<=1000000/\ ∀r∈l,r.2.2.length<=100000/\0<=r.2.1.2.2/\r.2.1.2.2<=1000000000000
def qer:S->K (PX×S):=λs ae=> ∃l,s=el9 l [] 0/\mx l/\ ∀o,o=GM l->ae (.exit 0,⟨86,[(3,.sl 0 0 o.length)],[(0,⟨0,none,wj false o⟩)]⟩)
def ZcO(l:List bO):S:=S.mk 86 (BT l::RU) [(0,En.mk 0 none (Obj.arr (112:TypeId) false []))]
theorem qg6(l:List bO)(ae:P×List (Nat×En)->Prop):(∃(au:List bO),ZcO l=ZcO au/\mx au/\ ∀(o:List gN),o=GM au->ae (P.sl 0 0 (List.length o),[uD o]))=(aK [] [(3,ah (aO 107 3) qer)] 107 [JU l] []) ae:=by kernel_rfl
def qes:br:=λps R ae=> ∃l,ps=[JU l]/\R=[]/\mx l/\ ∀o,o=GM l->ae (.sl 0 0 o.length,[(0,⟨0,none,wj false o⟩)])
abbrev es9(l:List gN)(o:List av)(i:Int):S:=⟨64,[(5,.sl 0 0 l.length),(6,.sl 1 0 o.length),(7,iD i)],[(0,⟨0,none,wj false l⟩),(1,⟨0,none,iw false o⟩)]⟩
abbrev qan(l:List gN)(o:List av)(n:Nat)(i k:Int):S:=⟨64,[(5,.sl 0 0 l.length),(6,.sl 1 0 n),(7,iD i),(8,iD k)],[(0,⟨0,none,wj false l⟩),(1,⟨0,none,iw false o⟩)]⟩
def VR(l:List gN):Nat×P:=(5,P.sl 0 0 (List.length l))
def ZcQ(ae:PX×S->Prop)(l:List gN)(n:Nat)(i:Int)(o:List av):Prop:=ae (PX.exit 2,S.mk 64 [VR l,JA n,rX i] [uD l,(1,Hq o)])
theorem qet(l:List gN)(o:List av)(n:Nat)(i k:Int)(ae:PX×S->Prop):(bif Zr k then bif mC k n then bif SU k o then bif wJ o k then bif Zb k then bif wQ k n then bif Z8f k o then bif Ov o k then∃(t:Int) (r:Int) (aH:Int) (t':Int) (r':Int) (i':Int),[P.d (D.agg (M9 o k)),P.d (D.agg (Vq o k))]=SE t r aH t' r' i'/\Zx/\bif SD t r aH t' r' i' then bif Zb k then bif Zb k then bif wQ k n then bif Z8f k o then bif Ov o k then bif mC k n then bif SU k o then bif wJ o k then bif mC k n then bif SU k o then bif wJ o k then bif wQ k n then bif decide (Zc k<List.length (Vz o k)) then bif cD PR (50:TypeId) (D.nth (Vz o k) (Zc k)) then bif Zb k then ae (PX.normal,S.mk 64 (VR l::JA n::rX i::Z8i k) [uD l,(1,Z8j o k)]) else False else False else False else False else False else False else False else False else False else False else False else False else False else False else False else ZcQ ae l n i o else False else False else False else False else False else False else False else ZcQ ae l n i o)=(aG [(88,iS)] [] 80 8 (qan l o n i k)) ae:=by kernel_rfl
def UE:S->K (PX×S):=λst ae=> ∃l o x n i k,st=qan l (o++[x]) n i k/\(k=(o.length:Int)/\n=o.length+1/\o.length<=1000000)/\ ∀o',o'=cL mj o x->ae (.exit 2,es9 l o' i)
def ZcR(l:List gN)(i:Int):List D:=[D.agg [D.int .i64 (D.aj (D.ar (D.nth (List.map lB l) (Zg i)) 0)),D.int .i64 (D.aj (D.ar (D.nth (List.map lB l) (Zg i)) 1)),D.int .i64 (D.aj (D.ar (D.nth (List.map lB l) (Zg i)) 2))]]
def ZcS(o:List av)(l:List gN)(i:Int):Int:=(↑(ib o+List.length (ZcR l i)):Int)-(1:Int)
theorem UF(l:List gN)(o:List av)(i:Int)(ae:PX×S->Prop):(bif decide (i<(↑(List.length l):Int)) then bif decide ((0:Int)<=i/\i<(↑(List.length l):Int)) then bif decide (Zg i<List.length (List.map lB l)) then bif cD PR (112:TypeId) (D.nth (List.map lB l) (Zg i)) then bif Nat.ble (ib o) (pL o)&&aM (ib o+List.length (ZcR l i)) 24 then bif decide (Z9<=ZcS o l i/\ZcS o l i<=Za) then∃(au:List gN) (aP:List av) (x:av) (n:Nat) (aH:Int) (k:Int),S.mk 64 [VR l,(6,P.sl 1 0 (ib o+List.length (ZcR l i))),rX i,(8,P.d (D.int .i64 (ZcS o l i)))] [uD l,(1,En.mk 0 none (Obj.arr (50:TypeId) false (List.take (ib o) (gu o)++ZcR l i)))]=S.mk 64 (VR au::JA n::rX aH::NL k) [uD au,(1,Z8u aP x)]/\(k=wi aP/\n=ib aP+1/\pS aP)/\ ∀(o':List av),o'=cL mj aP x->bif Zj aH then ae (PX.normal,S.mk 64 (VR au::(6,P.sl 1 0 (ib o'))::ZL aH) [uD au,(1,Hq o')]) else False else False else False else False else False else False else ae (PX.exit 0,S.mk 64 [(6,qH o)] (uA o)))=(aG [] [(8,ah (aO 80 8) UE)] 80 4 (es9 l o i)) ae:=by kernel_rfl
def qeu:S->K (PX×S):=λs ae=> ∃l,s=es9 l [] 0/\l.length<=1000000/\ ∀o,o=cj mj (l.map (·.1))->ae (.exit 0,⟨64,[(6,.sl 0 0 o.length)],[(0,⟨0,none,iw false o⟩)]⟩)
def ZcT(o:List gN):S:=S.mk 64 (VR o::Z7V) [uD o,(1,Lv)]
theorem qg7(l:List ak)(x:av)(ae:P×List (Nat×En)->Prop):(∃(au:List ak) (aJ:av),dq l::iU x=dq au::iU aJ/\Zx/\Zcv au/\ ∀(o:List bO),o=fy au aJ-> ∃(l:List bO),[P.d (D.sl 7 (List.take (List.length o) (List.map lB o)))]=[P.d (D.sl 7 (List.map lB l))]/\Zx/\mx l/\ ∀(o:List gN),o=GM l-> ∃(l:List gN),ZcT o=ZcT l/\List.length l<=1000000/\ ∀(o:List av),o=cj mj (List.map (λ(x:gN)=>Prod.fst x) l)->ae (qH o,uA o))=(aK [(59,qem),(107,qes)] [(4,ah (aO 80 4) qeu)] 80 [bT l,.d (bE x)] []) ae:=by kernel_rfl
def qev:br:=λps R ae=> ∃l x,ps=[bT l,.d (bE x)]/\R=[]/\(l.length<=1000000/\df l<=1000/\mx (fy l x))/\ ∀o,o=JT l x->ae (.sl 0 0 o.length,[(0,⟨0,none,iw false o⟩)])
abbrev knH(l:List ak)(v:List Int)(o:List ak)(i:Int):S:=⟨35,[(0,bT l),(1,vD v),(5,.sl 0 0 o.length),(6,iD i)],[(0,⟨0,none,qC false o⟩)]⟩
theorem qbr(l:List ak)(v:List Int)(o:List ak)(i:Int)(ae:PX×S->Prop):(bif qk i l then bif ko i l then bif eM l i then bif ko i l then bif eM l i then∃(au:List Int) (r:Int),[Zk v,P.d (qi l i)]=Zk au::Zv r/\Zx/\Zz au/\bif decide (D4 l i<=eG au r) then bif ko i l then bif eM l i then bif XP o l i then bif Zj i then ae (PX.normal,S.mk 35 (gj l::Zm v::(5,P.sl 0 0 (K5 o l i))::ZA i) [(0,XO o l i)]) else False else False else False else False else bif Zj i then ae (PX.normal,S.mk 35 (gj l::Zm v::(5,oH o)::ZA i) (D3 o)) else False else False else False else False else False else ae (PX.exit 0,S.mk 35 [(5,oH o)] (D3 o)))=(aG [(13,Vm)] [] 48 3 (knH l v o i)) ae:=by kernel_rfl
def gKn:S->K (PX×S):=λs ae=> ∃l v,s=knH l v [] 0/\(l.length<=1000000/\v.length<=1000000)/\ ∀o,o=aT l v->ae (.exit 0,⟨35,[(5,.sl 0 0 o.length)],[(0,⟨0,none,qC false o⟩)]⟩)
theorem qiU(l:List ak)(v:List Int)(ae:P×List (Nat×En)->Prop):(∃(au:List ak) (de:List Int),S.mk 35 (gj l::Zm v::SZ) Z5l=S.mk 35 (gj au::Zm de::SZ) Z5l/\(mB au/\Hh de)/\ ∀(o:List ak),o=aT au de->ae (oH o,D3 o))=(aK [] [(3,ah (aO 48 3) gKn)] 48 [bT l,vD v] []) ae:=by kernel_rfl
def hKn:br:=λps R ae=> ∃l v,ps=[bT l,vD v]/\R=[]/\(l.length<=1000000/\v.length<=1000000)/\ ∀o,o=aT l v->ae (.sl 0 0 o.length,[(0,⟨0,none,qC false o⟩)])
abbrev UG(l:List ak)(t i:Int):S:=⟨20,[(0,bT l),(3,iD t),(4,iD i)],[]⟩
theorem qbs(l:List ak)(t i:Int)(ae:PX×S->Prop):(bif qk i l then bif ko i l then bif eM l i then bif Zj i then ae (PX.normal,S.mk 20 (gj l::(3,P.d (D.int .i64 (max t (D.aj (D.ar (ij l i) 0)))))::vr i) []) else False else False else False else ae (PX.exit 0,S.mk 20 (Zu t) []))=(aG [] [] 49 3 (UG l t i)) ae:=by kernel_rfl
def UH:S->K (PX×S):=λs ae=> ∃l,s=UG l 0 0/\l.length<=1000000/\ ∀t,t=jD l->ae (.exit 0,⟨20,[(3,iD t)],[]⟩)
def ZcU(l:List ak):S:=S.mk 20 (gj l::(3,P.d Z7)::Ng) []
theorem qiV(l:List ak)(ae:P×List (Nat×En)->Prop):(∃(au:List ak),ZcU l=ZcU au/\mB au/\ ∀(t:Int),t=jD au->ae (P.d (Zt t),[]))=(aK [] [(3,ah (aO 49 3) UH)] 49 [bT l] []) ae:=by kernel_rfl
def UI:br:=λps R ae=> ∃l,ps=[bT l]/\R=[]/\l.length<=1000000/\ ∀t,t=jD l->ae (iD t,[])
abbrev ndH(l:List ak)(b:Bool)(o:List av)(i:Int):S:=⟨60,[(0,bT l),(1,.d (.bool b)),(5,.sl 0 0 o.length),(6,iD i)],[(0,⟨0,none,iw false o⟩)]⟩
abbrev ndI(l:List ak)(b:Bool)(o:List av)(i k:Int):S:=⟨60,[(0,bT l),(1,.d (.bool b)),(5,.sl 0 0 o.length),(6,iD i),(7,iD k)],[(0,⟨0,none,iw false o⟩)]⟩
def OL(b:Bool):Nat×P:=(1,gh b)
def ZcX(k:Int)(ae:PX×S->Prop)(l:List ak)(b:Bool)(o:List av)(i:Int):Prop:=bif Zj k then ae (PX.normal,S.mk 60 (gj l::OL b::(5,qH o)::ZK i::ZL k) (uA o)) else False
def ZcV(l:List ak)(i:Int)(k:Int):List D:=[D.agg [Zb7 l i k,Zb8 l i k,Zb9 l i k]]
theorem qbt(l:List ak)(b:Bool)(o:List av)(i k:Int)(ae:PX×S->Prop):(bif ko i l then bif eM l i then bif decide (k<NU l i) then bif ko i l then bif eM l i then bif Hu k l i then bif Ht l i k then bif Hs l i k==(0:Int) then bif ko i l then bif eM l i then bif Hu k l i then bif Ht l i k then bif D.e9 (D.ar (lA l i k) 8)==b then bif ko i l then bif eM l i then bif Hu k l i then bif Ht l i k then bif Nat.ble (ib o) (pL o)&&aM (ib o+List.length (ZcV l i k)) 24 then bif Zj k then ae (PX.normal,S.mk 60 (gj l::OL b::(5,P.sl 0 0 (ib o+List.length (ZcV l i k)))::ZK i::ZL k) [(0,En.mk 0 none (Obj.arr (50:TypeId) false (List.take (ib o) (gu o)++ZcV l i k)))]) else False else False else False else False else False else False else ZcX k ae l b o i else False else False else False else False else ZcX k ae l b o i else False else False else False else False else ae (PX.exit 2,S.mk 60 (gj l::OL b::(5,qH o)::JE i) (uA o)) else False else False)=(aG [] [] 76 6 (ndI l b o i k)) ae:=by kernel_rfl
def qew:S->K (PX×S):=λs ae=> ∃(l:List ak) (b:Bool) (o:List av) (i:Int) (g:ak),AtG l i g/\s=ndI l b o i 0/\(0<=i/\i<l.length/\o.length+g.ops.length<=1000000)/\ ∀o',o'=o++r1 b g.ops->ae (.exit 2,ndH l b o' i)
theorem qbu(l:List ak)(b:Bool)(o:List av)(i:Int)(ae:PX×S->Prop):(bif qk i l then∃(au:List ak) (SI:Bool) (aP:List av) (aH:Int) (g:ak),AtG au aH g/\S.mk 60 (gj l::OL b::(5,qH o)::ZK i::rI) (uA o)=S.mk 60 (gj au::OL SI::(5,qH aP)::ZK aH::rI) (uA aP)/\((0:Int)<=aH/\aH<ot au/\ib aP+List.length (ak.ops g)<=1000000)/\ ∀(o':List av),o'=aP++r1 SI (ak.ops g)->bif Zj aH then ae (PX.normal,S.mk 60 (gj au::OL SI::(5,qH o')::ZA aH) (uA o')) else False else ae (PX.exit 0,S.mk 60 [(5,qH o)] (uA o)))=(aG [] [(6,ah (aO 76 6) qew)] 76 3 (ndH l b o i)) ae:=by kernel_rfl
def gNd:S->K (PX×S):=λs ae=> ∃l b,s=ndH l b [] 0/\(l.length<=1000000/\df l<=1000)/\ ∀o,o=tv b l->ae (.exit 0,⟨60,[(5,.sl 0 0 o.length)],[(0,⟨0,none,iw false o⟩)]⟩)
def ZcY(l:List ak)(b:Bool):S:=S.mk 60 (gj l::OL b::SZ) [(0,Lv)]
theorem qiW(l:List ak)(b:Bool)(ae:P×List (Nat×En)->Prop):(∃(au:List ak) (SI:Bool),ZcY l b=ZcY au SI/\Zcv au/\ ∀(o:List av),o=tv SI au->ae (qH o,uA o))=(aK [] [(3,ah (aO 76 3) gNd)] 76 [bT l,.d (.bool b)] []) ae:=by kernel_rfl
def qex:br:=λps R ae=> ∃l b,ps=[bT l,.d (.bool b)]/\R=[]/\(l.length<=1000000/\df l<=1000)/\ ∀o,o=tv b l->ae (.sl 0 0 o.length,[(0,⟨0,none,iw false o⟩)])
theorem qiX(a b:List av)(ae:P×List (Nat×En)->Prop):(bif Nat.ble 0 0&&aM (0+pL a) 24 then bif Nat.ble (0+pL a) (List.length ([]++gu a))&&aM (0+pL a+pL b) 24 then ae (P.sl 0 0 (0+pL a+pL b),[(0,En.mk 0 none (Obj.arr (50:TypeId) false (List.take (0+pL a) ([]++gu a)++gu b)))]) else False else False)=(aK [] [] 78 [cR a,cR b] []) ae:=by kernel_rfl
def hJn:br:=λps R ae=> ∃a b,ps=[cR a,cR b]/\R=[]/\(a.length<=1000000/\b.length<=1000000)/\ ∀o,o=a++b->ae (.sl 0 0 o.length,[(0,⟨0,none,iw false o⟩)])
theorem GS{l:List ak}{v:List Int}{i:Nat}(h:i<l.length):aT (l.take (i+1)) v=if l[i].n<=eG v l[i].s.2 then aT (l.take i) v++[l[i]] else aT (l.take i) v:=by
 unfold aT;rw[zag h,zb4];by_cases hc:l[i].n<=eG v l[i].s.2
 ·rw[zao hc,zdg (by simpa using hc)];rfl
 rw[zam hc,zdh (by simpa using hc),List.filter_nil,zbi]
theorem JW(l:List ak)(v:List Int):(aT l v).length<=l.length:=za5 _ _
section
variable{X:XF}
theorem qey:LD X 48 3 (ah (aO 48 3) gKn):=LD.idx (H:=[(13,Vm)]) (hk:=[]) (by kernel_rfl) (by kernel_rfl) (.cons FI .nil) .nil
 (A:=List ak×List Int) (B:=List ak) (λa o i=>knH a.1 a.2 o i) (λa=>a.1.length) (λa i o=>(a.1.length<=1000000/\a.2.length<=1000000)/\o=aT (a.1.take i) a.2)
 (λa x=>x=(.exit 0,⟨35,[(5,.sl 0 0 (aT a.1 a.2).length)],[(0,⟨0,none,qC false (aT a.1 a.2)⟩)]⟩))
 (by
  rintro⟨l,v⟩ o i ae h0 bQ bj ⟨hl,gb⟩ hn ho
  try dsimp only at*
  (rw[<-qbr];delta cW r9 OB D3 fu oH Zg ij D4 qi qj Am XO Zn ZA K5 Zk Zm dq gj Za Z9 Zj fH XP Zy Zz Zx Zt Zv eM ko qk)
  have e1:D.nth (l.map aV) i.toNat=aV l[i.toNat]:=aA _ _ _ bj;have lY:o.length<=l.length:=by rw[gb];exact zaI (JW _ _) (by rw[zay];exact Nat.min_le_right _ _)
  have hk:=GS (v:=v) bj;rw[<-gb] at hk;have gf:i<((l.map aV).length:Int):=by rw[zaa];exact bQ
  have NC:i.toNat<(l.map aV).length:=by rw[zaa];exact bj
  rw[e1];generalize l[i.toNat]=g at*
  have p9:=gi g;have t2:D.agg [D.int .i64 (D.aj (D.ar (aV g) 0)),D.int .i64 (D.aj (D.ar (aV g) 1)),D.int .i64 g.n,D.sl 1 (D.fa (D.ar (aV g) 3)),D.int .i64 (D.aj (D.ar (aV g) 4)),D.int .i64 (D.aj (D.ar (aV g) 5)),D.sl 18 (D.fa (D.ar (aV g) 6))]=aV g:=rfl;have u2:D.aj (D.ar (aV g) 2)=g.n:=rfl;refine gI (zaT gf) (ao ⟨h0,gf⟩ (aq p9 (ao ⟨h0,gf⟩ (aq p9 ⟨v,g.s.2,rfl,rfl,by omega,?_⟩))));rw[u2];refine cE (λhc=>ao ⟨h0,gf⟩ (aq p9 (aq ?_ (ao (by omega) ?_)))) λhc=>ao (by omega) ?_
  ·rw[zab];exact⟨by simp,cq (by omega) (by omega)⟩
  ·have:=hn (o++[g]) ⟨hl,by rw[hk,zao hc]⟩;rw[t2,cv];simp only[knH,zan,zap,zat,zaG] at this;exact this
  exact hn o ⟨hl,by rw[hk,zam hc]⟩)
 (by
  rintro⟨l,v⟩ o i ae hi ⟨hl,gb⟩ ho
  try dsimp only at*
  (rw[<-qbr];delta cW r9 OB D3 fu oH Zg ij D4 qi qj Am XO Zn ZA K5 Zk Zm dq gj Za Z9 Zj fH XP Zy Zz Zx Zt Zv eM ko qk)
  have gf: ¬i<((l.map aV).length:Int):=by rw[zaa];omega
  rw[zak] at gb;refine jq (zaL gf) (ho _ (λh=>by cases h) ?_);rw[gb])
 (by rintro s ae ⟨l,v,rfl,hl,hp⟩;refine⟨(l,v),[],rfl,⟨hl,rfl⟩,?_⟩;rintro x rfl;exact hp _ rfl)
theorem qiY:FD X 48 hKn:=FD.mk (H:=[]) (hk:=[(3,ah (aO 48 3) gKn)]) (by kernel_rfl) .nil (.cons qey .nil) (by
 intro ps R ae hh;obtain⟨l,v,rfl,rfl,hl,hp⟩:=hh
 (rw[<-qiU];delta cW r9 OB D3 fu oH Hh mB OC Z5l Z7 Jy ZQ SZ Zk Zm dq gj)
 exact⟨l,v,rfl,hl,λo ho=>hp o ho⟩)
theorem UJ:LD X 49 3 (ah (aO 49 3) UH):=LD.idx (H:=[]) (hk:=[]) (by kernel_rfl) (by kernel_rfl) .nil .nil
 (A:=List ak) (B:=Int) (λl t i=>UG l t i) (λl=>l.length) (λl i t=>l.length<=1000000/\t=jD (l.take i))
 (λl x=>x=(.exit 0,⟨20,[(3,iD (jD l))],[]⟩))
 (by
  rintro l t i ae h0 bQ bj ⟨hl,rfl⟩ hn ho
  try dsimp only at*
  (rw[<-qbs];delta Zt Zu Zn vr Zg cW ij dq gj Za Z9 Zj eM fH ko qk)
  have e1:D.nth (l.map aV) i.toNat=aV l[i.toNat]:=aA _ _ _ bj;have hk:=GD bj;have gf:i<((l.map aV).length:Int):=by rw[zaa];exact bQ
  rw[e1];have p9:=gi l[i.toNat];refine gI (zaT gf) (ao ⟨h0,gf⟩ (aq p9 (ao (by omega) ?_)));have:=hn _ ⟨hl,rfl⟩;rw[hk] at this;exact this)
 (by
  rintro l t i ae hi ⟨hl,ht⟩ ho
  try dsimp only at*
  (rw[<-qbs];delta Zt Zu Zn vr Zg cW ij dq gj Za Z9 Zj eM fH ko qk)
  have gf: ¬i<((l.map aV).length:Int):=by rw[zaa];omega
  rw[zak] at ht;refine jq (zaL gf) (ho _ (λh=>by cases h) ?_);rw[ht])
 (by rintro s ae ⟨l,rfl,hl,hp⟩;refine⟨l,0,rfl,⟨hl,rfl⟩,?_⟩;rintro x rfl;exact hp _ rfl)
theorem qez:FD X 49 UI:=FD.mk (H:=[]) (hk:=[(3,ah (aO 49 3) UH)]) (by kernel_rfl) .nil (.cons UJ .nil) (by
 intro ps R ae hh;obtain⟨l,rfl,rfl,hl,hp⟩:=hh
 (rw[<-qiV];delta Zt fu mB Z7 Ng cW dq gj ZcU)
 exact⟨l,rfl,hl,λt ht=>hp t ht⟩)
theorem qiZ:FD X 78 hJn:=FD.mk (H:=[]) (hk:=[]) (by kernel_rfl) .nil .nil (by
 intro ps R ae hh;obtain⟨a,b,rfl,rfl,⟨ha,hb⟩,hp⟩:=hh
 (rw[<-qiX];delta gu pL)
 have:=hp (a++b) rfl;have tk:List.take a.length (a.map bE)=a.map bE:=zai (by simp);simp only[zbg,zaG,zaa];rw[tk];refine aq ?_ (aq ?_ ?_)
 ·rw[zab];exact⟨by simp,cp (by omega) (by omega)⟩
 ·rw[zab];exact⟨by simp,cp (by omega) (by omega)⟩
 rw[<-zaz];rw[zan] at this;exact this)
theorem N9{b:Bool}{l:List aX}{k:Nat}(h:k<l.length):r1 b (l.take (k+1))=if l[k].kind=0/\l[k].dir=b then r1 b (l.take k)++[l[k].node] else r1 b (l.take k):=by
 unfold r1;rw[zag h,zb4];split
 next hc=>rw[zdg (by simp[hc.1,hc.2])];simp
 rename_i hc;rw[zdh (by rw[zab,zaR,zaR];exact hc)];simp
theorem Oa{b:Bool}{l:List ak}{i:Nat}(h:i<l.length):tv b (l.take (i+1))=tv b (l.take i)++r1 b l[i].ops:=by unfold tv;rw[zag h,zbG];simp
theorem qao:LD X 76 6 (ah (aO 76 6) qew):=LD.idx (H:=[]) (hk:=[]) (by kernel_rfl) (by kernel_rfl) .nil .nil
 (A:=List ak×Bool×List av×Int×ak) (B:=List av) (λa o k=>ndI a.1 a.2.1 o a.2.2.2.1 k) (λa=>a.2.2.2.2.ops.length)
 (λa k o=>((0<=a.2.2.2.1/\a.2.2.2.1<a.1.length)/\D.nth (a.1.map aV) a.2.2.2.1.toNat=aV a.2.2.2.2/\a.2.2.1.length+a.2.2.2.2.ops.length<=1000000)/\o=a.2.2.1++r1 a.2.1 (a.2.2.2.2.ops.take k))
 (λa z=>z=(.exit 2,ndH a.1 a.2.1 (a.2.2.1++r1 a.2.1 a.2.2.2.2.ops) a.2.2.2.1))
 (by
  rintro⟨l,b,o0,i,g⟩ o k ae h0 tG dQ ⟨⟨hb,hg,hl⟩,ho⟩ hn bw
  try dsimp only at*
  (rw[<-qbt];delta gu Hq uA Zt ZK JE ib qH Zn ZL gh OL cW dq gj Za Z9 Zj ZcX Zg ij lA Zb9 Zb8 Zb7 ZcV pL Hs Ht NU Hu eM fH ko)
  have gf:0<=i/\i<((l.map aV).length:Int):=by rw[zaa];exact hb
  have u6:D.fa (D.ar (aV g) 6)=g.ops.map eI:=rfl;have e1:D.nth (g.ops.map eI) k.toNat=eI g.ops[k.toNat]:=aA _ _ _ dQ;have lM:=N9 (b:=b) dQ;have lY:o.length<1000000:=by have:=GR b (g.ops.take k.toNat);rw[zay] at this;rw[ho,zan];omega
  rw[hg,u6,e1];have JM:0<=k/\k<((g.ops.map eI).length:Int):=by rw[zaa];exact⟨h0,tG⟩
  generalize g.ops[k.toNat]=y at*
  have p9:=gi g;have sB:=I9 y;have c0:D.aj (D.ar (eI y) 0)=y.kind:=rfl;have c1:D.e9 (D.ar (eI y) 8)=y.dir:=rfl;have t2:D.agg [D.int .i64 (D.aj (D.ar (eI y) 1)),D.int .i64 (D.aj (D.ar (eI y) 2)),D.int .i64 (D.aj (D.ar (eI y) 3))]=bE y.node:=rfl;rw[c0,c1,t2,cv];have b7: ¬(y.kind=0/\y.dir=b)->o0++r1 b (g.ops.take (k.toNat+1))=o:=λh=>by rw[lM,ho,zam h]
  have ec:y.kind=0->y.dir=b->o0++r1 b (g.ops.take (k.toNat+1))=o++[y.node]:=λh1 h2=>by rw[lM,ho,zao ⟨h1,h2⟩,zaZ]
  refine ao gf (aq p9 (bM JM.2 (ao gf (aq p9 (ao JM (aq sB (By (λhk=>ao gf (aq p9 (ao JM (aq sB (ay (λhx=>ao gf (aq p9 (ao JM (aq sB ?_)))) λhx=>ao (by omega) (hn o ⟨⟨hb,hg,hl⟩,(b7 (λhh=>by rw[hh.2] at hx;simp at hx)).symm⟩)))))) λhk=>ao (by omega) (hn o ⟨⟨hb,hg,hl⟩,(b7 (λhh=>hk hh.1)).symm⟩))))))));have hy:=hn (o++[y.node]) ⟨⟨hb,hg,hl⟩,(ec hk (by simpa using hx)).symm⟩;simp only[ndI,zan] at hy;refine aq (ep rfl (by rw[zaa]) (by omega) (by decide)) (ao (by omega) ?_);exact hy)
 (by
  rintro⟨l,b,o0,i,g⟩ o k ae hk ⟨⟨hb,hg,hl⟩,ho⟩ bw
  try dsimp only at*
  (rw[<-qbt];delta gu Hq uA Zt ZK JE ib qH Zn ZL gh OL cW dq gj Za Z9 Zj ZcX Zg ij lA Zb9 Zb8 Zb7 ZcV pL Hs Ht NU Hu eM fH ko)
  have gf:0<=i/\i<((l.map aV).length:Int):=by rw[zaa];exact hb
  have u6:D.fa (D.ar (aV g) 6)=g.ops.map eI:=rfl;rw[hg,u6];refine ao gf (aq (gi g) (mq (by rw[zaa];omega) (bw _ (λh=>by cases h) ?_)));rw[ho,zak])
 (by rintro s ae ⟨l,b,o,i,g,hg,rfl,⟨h1,h2,h3⟩,hp⟩;refine⟨(l,b,o,i,g),o,rfl,⟨⟨⟨h1,h2⟩,hg,h3⟩,by simp[r1]⟩,?_⟩;rintro z rfl;exact hp _ rfl)
theorem qeA:LD X 76 3 (ah (aO 76 3) gNd):=LD.idx (H:=[]) (hk:=[(6,ah (aO 76 6) qew)]) (by kernel_rfl) (by kernel_rfl) .nil (.cons qao .nil)
 (A:=List ak×Bool) (B:=List av) (λa o i=>ndH a.1 a.2 o i) (λa=>a.1.length)
 (λa i o=>(a.1.length<=1000000/\df a.1<=1000)/\o=tv a.2 (a.1.take i))
 (λa z=>z=(.exit 0,⟨60,[(5,.sl 0 0 (tv a.2 a.1).length)],[(0,⟨0,none,iw false (tv a.2 a.1)⟩)]⟩))
 (by
  rintro⟨l,b⟩ o i ae h0 bQ bj ⟨hc,ho⟩ hn bw
  try dsimp only at*
  (rw[<-qbu];delta Zn ZA Za Z9 Zj ib fu ot gu Hq uA Z7 rI Zt ZK qH gh OL cW dq gj fH qk)
  have lM:=Oa (b:=b) bj;have h2:=qn l (i.toNat+1);have h3:=rV bj;have h4:=nb b (l.take i.toNat);rw[<-ho] at h4;refine bM (by rw[zaa];exact bQ) ⟨l,b,o,i,l[i.toNat],aA _ _ _ bj,rfl,⟨h0,bQ,by omega⟩,λo' gb=>ao (by omega) (hn o' ⟨hc,?_⟩)⟩;rw[gb,ho,lM])
 (by
  rintro⟨l,b⟩ o i ae hi ⟨hc,ho⟩ bw
  try dsimp only at*
  (rw[<-qbu];delta Zn ZA Za Z9 Zj ib fu ot gu Hq uA Z7 rI Zt ZK qH gh OL cW dq gj fH qk)
  refine mq (by rw[zaa];omega) (bw _ (λh=>by cases h) ?_);rw[ho,zak])
 (by rintro s ae ⟨l,b,rfl,hc,hp⟩;refine⟨(l,b),[],rfl,⟨hc,rfl⟩,?_⟩;rintro z rfl;exact hp _ rfl)
theorem qg8:FD X 76 qex:=FD.mk (H:=[]) (hk:=[(3,ah (aO 76 3) gNd)]) (by kernel_rfl) .nil (.cons qeA .nil) (by
 intro ps R ae hh;obtain⟨l,b,rfl,rfl,hs,hp⟩:=hh
 (rw[<-qiW];delta gu Hq uA ib qH fu mB Zcv Lv Z7 Jy ZQ SZ gh OL cW dq gj ZcY)
 exact⟨l,b,rfl,hs,λo ho=>hp o ho⟩)
end
theorem UK(r:bO):cD PR 165 (lB r)=true:=by kernel_rfl
theorem qg9(r:gN):cD PR 112 (lB r)=true:=by kernel_rfl
theorem qi0(s:List UInt8):cD PR 9 (D.str s)=true:=by kernel_rfl
theorem Ob{x:av}{l:List aX}{k:Nat}(h:k<l.length):tu x (l.take (k+1))=tu x (l.take k)++DP x l[k]:=by unfold tu;rw[zag h,zbG];simp
theorem JX{x:av}{l:List ak}{i:Nat}(h:i<l.length):fy (l.take (i+1)) x=fy (l.take i) x++tu x l[i].ops:=by unfold fy;rw[zag h,zbG];simp
section
variable{X:XF}
theorem UL:LD X 59 6 (ah (aO 59 6) Uv):=LD.idx (H:=[]) (hk:=[]) (by kernel_rfl) (by kernel_rfl) .nil .nil
 (A:=List ak×av×List bO×Int×ak) (B:=List bO) (λa o k=>qal a.1 a.2.1 o a.2.2.2.1 k) (λa=>a.2.2.2.2.ops.length)
 (λa k o=>((0<=a.2.2.2.1/\a.2.2.2.1<a.1.length)/\D.nth (a.1.map aV) a.2.2.2.1.toNat=aV a.2.2.2.2/\a.2.2.1.length+a.2.2.2.2.ops.length<=1000000)/\o=a.2.2.1++tu a.2.1 (a.2.2.2.2.ops.take k))
 (λa z=>z=(.exit 2,rn9 a.1 a.2.1 (a.2.2.1++tu a.2.1 a.2.2.2.2.ops) a.2.2.2.1))
 (by
  rintro⟨l,x,o0,i,g⟩ o k ae h0 tG dQ ⟨⟨hb,hg,hl⟩,ho⟩ hn bw
  try dsimp only at*
  (rw[<-qbp];delta Zcr gR gP ia gC gD oS wh Zcs Zt ZK JE Zcq Zn ZL cb dH cW dq gj Za Z9 Zj Zct Zg ij lA Zcp Hs Ht NU Hu eM fH ko)
  have gf:0<=i/\i<((l.map aV).length:Int):=by rw[zaa];exact hb
  have u6:D.fa (D.ar (aV g) 6)=g.ops.map eI:=rfl;have e1:D.nth (g.ops.map eI) k.toNat=eI g.ops[k.toNat]:=aA _ _ _ dQ;have lM:=Ob (x:=x) dQ;have lY:o.length<1000000:=by have:=zh x (g.ops.take k.toNat);rw[zay] at this;rw[ho,zan];omega
  rw[hg,u6,e1];have JM:0<=k/\k<((g.ops.map eI).length:Int):=by rw[zaa];exact⟨h0,tG⟩
  generalize g.ops[k.toNat]=y at*
  have p9:=gi g;have sB:=I9 y;have c0:D.aj (D.ar (eI y) 0)=y.kind:=rfl;have c1:(D.aj (D.ar (eI y) 1)==x.1&&(D.aj (D.ar (eI y) 2)==x.2.1&&true)&&(D.aj (D.ar (eI y) 3)==x.2.2&&true))=(y.node==x):=tj y.node x;have t2:D.agg [D.int .i64 (D.aj (D.ar (eI y) 10)),D.int .i64 (D.aj (D.ar (eI y) 11)),D.int .i64 (D.aj (D.ar (eI y) 12)),D.int .i64 (D.aj (D.ar (eI y) 13)),D.int .i64 (D.aj (D.ar (eI y) 14)),D.int .i64 (D.aj (D.ar (eI y) 15)),D.str (D.eJ (D.ar (eI y) 16))]=lB (y.after,y.elem,y.text):=rfl;rw[c0,c1,t2,cv];have b7: ¬(y.kind=3/\y.node=x)->o0++tu x (g.ops.take (k.toNat+1))=o:=λh=>by
   rw[lM,ho];have:DP x y=[]:=by unfold DP;rw[zam h]
   rw[this,zbi]
  have ec:y.kind=3->y.node=x->o0++tu x (g.ops.take (k.toNat+1))=o++[(y.after,y.elem,y.text)]:=λh1 h2=>by
   rw[lM,ho,zaZ];have:DP x y=[(y.after,y.elem,y.text)]:=by unfold DP;rw[zao ⟨h1,h2⟩]
   rw[this]
  refine ao gf (aq p9 (bM JM.2 (ao gf (aq p9 (ao JM (aq sB (By (λhk=>ay (λhx=> ?_) λhx=>ao (by omega) (hn o ⟨⟨hb,hg,hl⟩,(b7 (λhh=>by rw[hh.2] at hx;simp at hx)).symm⟩)) λhk=>ao (by omega) (hn o ⟨⟨hb,hg,hl⟩,(b7 (λhh=>hk hh.1)).symm⟩))))))));have hy:=hn (o++[(y.after,y.elem,y.text)]) ⟨⟨hb,hg,hl⟩,(ec hk (by simpa using hx)).symm⟩;simp only[qal,zan] at hy;refine aq (ep rfl (by rw[zaa]) (by omega) (by decide)) (ao (by omega) ?_);exact hy)
 (by
  rintro⟨l,x,o0,i,g⟩ o k ae hk ⟨⟨hb,hg,hl⟩,ho⟩ bw
  try dsimp only at*
  (rw[<-qbp];delta Zcr gR gP ia gC gD oS wh Zcs Zt ZK JE Zcq Zn ZL cb dH cW dq gj Za Z9 Zj Zct Zg ij lA Zcp Hs Ht NU Hu eM fH ko)
  have gf:0<=i/\i<((l.map aV).length:Int):=by rw[zaa];exact hb
  have u6:D.fa (D.ar (aV g) 6)=g.ops.map eI:=rfl;rw[hg,u6];refine ao gf (aq (gi g) (mq (by rw[zaa];omega) (bw _ (λh=>by cases h) ?_)));rw[ho,zak])
 (by rintro s ae ⟨l,x,o,i,g,hg,rfl,⟨h1,h2,h3⟩,hp⟩;refine⟨(l,x,o,i,g),o,rfl,⟨⟨⟨h1,h2⟩,hg,h3⟩,by simp[tu]⟩,?_⟩;rintro z rfl;exact hp _ rfl)
theorem qap:LD X 59 3 (ah (aO 59 3) qel):=LD.idx (H:=[]) (hk:=[(6,ah (aO 59 6) Uv)]) (by kernel_rfl) (by kernel_rfl) .nil (.cons UL .nil)
 (A:=List ak×av) (B:=List bO) (λa o i=>rn9 a.1 a.2 o i) (λa=>a.1.length)
 (λa i o=>(a.1.length<=1000000/\df a.1<=1000)/\o=fy (a.1.take i) a.2)
 (λa z=>z=(.exit 0,⟨53,[(5,.sl 0 0 (fy a.1 a.2).length)],[(0,⟨0,none,Uu false (fy a.1 a.2)⟩)]⟩))
 (by
  rintro⟨l,x⟩ o i ae h0 bQ bj ⟨hc,ho⟩ hn bw
  try dsimp only at*
  (rw[<-qbq];delta Zcr Zn ZA Za Z9 Zj fu ot gR gP ia gC gD oS wh Zcs Z7 rI Zt ZK Zcq cb dH cW dq gj fH qk)
  have lM:=JX (x:=x) bj;have h1:=qp x (l.take (i.toNat+1));have h2:=qn l (i.toNat+1);have h3:=rV bj;have h4:=qp x (l.take i.toNat);rw[<-ho] at h4;refine bM (by rw[zaa];exact bQ) ⟨l,x,o,i,l[i.toNat],aA _ _ _ bj,rfl,⟨h0,bQ,by omega⟩,λo' gb=>ao (by omega) (hn o' ⟨hc,?_⟩)⟩;rw[gb,ho,lM])
 (by
  rintro⟨l,x⟩ o i ae hi ⟨hc,ho⟩ bw
  try dsimp only at*
  (rw[<-qbq];delta Zcr Zn ZA Za Z9 Zj fu ot gR gP ia gC gD oS wh Zcs Z7 rI Zt ZK Zcq cb dH cW dq gj fH qk)
  refine mq (by rw[zaa];omega) (bw _ (λh=>by cases h) ?_);rw[ho,zak])
 (by rintro s ae ⟨l,x,rfl,hc,hp⟩;refine⟨(l,x),[],rfl,⟨hc,rfl⟩,?_⟩;rintro z rfl;exact hp _ rfl)
theorem qha:FD X 59 qem:=FD.mk (H:=[]) (hk:=[(3,ah (aO 59 3) qel)]) (by kernel_rfl) .nil (.cons qap .nil) (by
 intro ps R ae hh;obtain⟨l,x,rfl,rfl,hs,hp⟩:=hh
 (rw[<-qiT];delta Zcr fu mB Zcv gR gP ia gC gD oS wh Z7 Jy zD Z7E cb dH cW dq gj Zcu)
 exact⟨l,x,rfl,hs,λo ho=>hp o ho⟩)
theorem UM:LD X 79 8 (ah (aO 79 8) Uw):=LD.ins (H:=[(14,pK)]) (hk:=[]) (by kernel_rfl) (by kernel_rfl) (.cons yE .nil) .nil
 (A:=List bf×List bf×av×Nat×Int) (α:=az) (λa o k=>qam a.1 a.2.1 a.2.2.1 o a.2.2.2.1 a.2.2.2.2 k) lW (λa=>a.2.2.2.1) (λ_=>True) (λa o=>(.exit 2,⟨84,[(0,iW a.1),(1,iW a.2.1),(5,.ref 0 0 0),(7,.sl 1 0 a.2.2.2.1),(8,iD a.2.2.2.2)],[(0,⟨0,none,uC a.2.2.1⟩),(1,⟨0,none,l0 false o⟩)]⟩)) (λ_ _ h=>by cases h)
 (by
  rintro⟨h,g,v,n,i⟩ o k ae _ h0 Hr lY hk hz b7 ec
  try dsimp only at*
  subst Hr
  (rw[<-qen];delta eL oI gR gP ia gC gD oS wh Zcx Zt vB NL Zs Z7Q cb yQ Av wS sd Zc Xo Zg I5 Hg Al Zcw Zx ll ln tH qg Da Xp wQ Za Z9 Zb vU Le mC Zr)
  refine cE (λhp=> ?_) λhp=>hz (by omega);have fV:k.toNat-1<o.length:=by omega
  have ek:(k-1).toNat=k.toNat-1:=by omega
  have e1:D.nth (o.map bh) k.toNat=bh o[k.toNat]:=aA _ _ _ hk;have e2:D.nth (o.map bh) (k.toNat-1)=bh o[k.toNat-1]:=aA _ _ _ fV;have b7:=b7 hp;have ec:=ec hp;have yW:=kB bh o k.toNat o[k.toNat] o[k.toNat-1];have e3: ∀z,D.nth ((o.map bh).set k.toNat z) (k.toNat-1)=bh o[k.toNat-1]:=λz=>by unfold D.nth;rw[zac,zaX (by omega)];simp[fV]
  rw[ek,e1,e2];simp only[e3];generalize o[k.toNat]=x at*
  generalize o[k.toNat-1]=y at*
  simp only[zaa,zbf] at ec⊢;have yX:0<=k/\k<(o.length:Int):=⟨h0,by omega⟩
  have yY:0<=k-1/\k-1<(o.length:Int):=⟨by omega,by omega⟩
  have hf:(-9223372036854775808:Int)<=k-1/\k-1<=9223372036854775807:=by omega
  refine ao yX (ao hk (aq (jS _) (ao hf (ao yY (ao fV (aq (jS _) ⟨x,y,rfl,rfl,λb hb=>ay (λh=> ?_) λh=>b7 (by rw[<-hb];exact h)⟩))))));have hy:=ec (by rw[<-hb];exact h);simp only[qam,l0] at hy;rw[<-yW] at hy;refine ao hf (ao hf (ao yY (ao fV (aq (jS _) (ao yX (ao hk (aq (jS _) (ao yX (ao hk (aq (jS _) (ao yY (ao fV (aq (jS _) (ao hf ?_))))))))))))));exact hy)
 (by rintro s ae ⟨h,g,v,o,x,n,i,k,rfl,⟨hk,hn,ho⟩,hp⟩;refine⟨(h,g,v,n,i),o,x,k,rfl,hk,trivial,⟨hn.symm,ho⟩,?_⟩;have:=hp _ rfl;rw[of9,lv,<-hn] at this;exact this)
theorem qaq:LD X 79 3 (ah (aO 79 3) qeo):=LD.idx (H:=[(92,SP),(42,GA)]) (hk:=[(8,ah (aO 79 8) Uw)]) (by kernel_rfl) (by kernel_rfl) (.cons qa6 (.cons S2 .nil)) (.cons UM .nil)
 (A:=List bf×List bf×av) (B:=List az) (λa o i=>of9 a.1 a.2.1 a.2.2 o i) (λa=>a.1.length) (λa i o=>(a.1.length<=1000000/\a.2.1.length<=1000000)/\o=sP (a.1.take i) a.2.1 a.2.2)
 (λa x=>x=(.exit 0,⟨84,[(7,.sl 0 0 (sP a.1 a.2.1 a.2.2).length)],[(0,⟨0,none,l0 false (sP a.1 a.2.1 a.2.2)⟩)]⟩))
 (by
  rintro⟨h,g,v⟩ o i ae h0 bQ bj ⟨hm,ho⟩ hn bw
  try dsimp only at*
  (rw[<-Ux];delta eL oI Nr Zt Z7U gR gP ia gC gD oS wh vB Za Z9 Zg yT Z8n eu Zcz Zcx Zn qG cb yQ Av wS sd Zj VP rT Se D7 ll ln tH qg zA BH Zx Z8o Zcy NJ NK Ys)
  have lY:o.length<=i.toNat:=by rw[ho];exact DR _ (by omega)
  have e1:D.nth (h.map jv) i.toNat=jv h[i.toNat]:=aA _ _ _ bj;have kC:=DQ (g:=g) (x:=v) bj;rw[<-ho] at kC;have fS:=λo' (gb:o'=OJ g v o h[i.toNat])=>hn o' ⟨hm,by rw[kC];exact gb⟩;generalize h[i.toNat]=d at*
  rw[e1];simp only[zaa];have t1:List.take o.length (o.map bh)++[bh d.2]=(o++[d.2]).map bh:=cv bh o d.2;have c1:(D.aj (D.ar (jv d) 0)==v.1&&(D.aj (D.ar (jv d) 1)==v.2.1&&true)&&(D.aj (D.ar (jv d) 2)==v.2.2&&true))=(d.1==v):=tj d.1 v;rw[c1];refine bM bQ (ao ⟨h0,bQ⟩ (aq (JF _) (ay (λhx=>ao (by omega) (fS o ?_)) λhx=>ao ⟨h0,bQ⟩ (aq (JF _) ⟨g,d,rfl,rfl,hm.2,λb hb=> ?_⟩))))
  ·unfold OJ;rw[zao (.inl (by simpa using hx))]
  have Ae: ¬d.1≠v:=by simpa using hx
  refine ay (λD2=>ao (by omega) (fS o ?_)) λBI=>ao ⟨h0,bQ⟩ (aq (JF _) ⟨o,d.2,rfl,rfl,by omega,λb2 cr=>ay (λS4=>ao (by omega) (fS o ?_)) λS5=> ?_⟩)
  ·unfold OJ;rw[hb,zah] at D2;rw[zao (.inr (.inl D2))]
  ·unfold OJ;rw[cr,zah] at S4;rw[zao (.inr (.inr S4))]
  rw[hb,zaO] at BI;rw[cr,zaO] at S5;have S6:OJ g v o d=cL lW o d.2:=by unfold OJ;rw[zam (λhh=>hh.elim Ae λhh=>hh.elim BI S5)]
  simp only[zap,zat,zaG];refine ao ⟨h0,bQ⟩ (aq (JF _) (aq ?_ (ao (by omega) ⟨h,g,v,o,d.2,o.length+1,i,((o.length+1:Nat):Int)-1,congrArg (λz=>(⟨84,[(0,iW h),(1,iW g),(5,.ref 0 0 0),(7,.sl 1 0 (o.length+1)),(8,iD i),(9,iD (((o.length+1:Nat):Int)-1))],[(0,⟨0,none,uC v⟩),(1,⟨0,none,.arr 30 false z⟩)]⟩:S)) t1,⟨by omega,rfl,by omega⟩,λo' gb=>ao (by omega) (fS o' (by rw[S6];exact gb))⟩)));rw[zab];exact⟨by simp,cq (by omega) (by omega)⟩)
 (by
  rintro⟨h,g,v⟩ o i ae hi ⟨hm,ho⟩ bw
  try dsimp only at*
  (rw[<-Ux];delta eL oI Nr Zt Z7U gR gP ia gC gD oS wh vB Za Z9 Zg yT Z8n eu Zcz Zcx Zn qG cb yQ Av wS sd Zj VP rT Se D7 ll ln tH qg zA BH Zx Z8o Zcy NJ NK Ys)
  refine mq (by simp only[zaa];omega) (bw _ (λh=>by cases h) ?_);rw[ho,zak])
 (by rintro s ae ⟨h,g,v,rfl,hs,hp⟩;refine⟨(h,g,v),[],rfl,⟨hs,rfl⟩,?_⟩;rintro x rfl;exact hp _ rfl)
theorem qhb:FD X 79 qep:=FD.mk (H:=[]) (hk:=[(3,ah (aO 79 3) qeo)]) (by kernel_rfl) .nil (.cons qaq .nil) (by
 intro ps R ae hh;obtain⟨h,g,v,rfl,rfl,hs,hp⟩:=hh
 (rw[<-qg5];delta eL oI Nr eu zA BH wc gR gP ia gC gD oS wh Z7 Jx zD cb yQ Av wS sd ZcA)
 exact⟨h,g,v,rfl,hs,λo ho=>hp o ho⟩)
theorem UN:LD X 107 13 (ah (aO 107 13) UA):=LD.idx (H:=[]) (hk:=[]) (by kernel_rfl) (by kernel_rfl) .nil .nil
 (A:=List bO×List gN×List (List UInt8)×av×av×Bool×Int×Int) (B:=Bool) (λa b j=>qeq a.1 a.2.1 a.2.2.1 a.2.2.2.1 a.2.2.2.2.1 b a.2.2.2.2.2.2.1 a.2.2.2.2.2.2.2 j) (λa=>a.2.1.length)
 (λa j b=>a.2.1.length<=1000000/\b=(a.2.2.2.2.2.1 || (a.2.1.take j).any λe=>e.1==a.2.2.2.2.1))
 (λa z=>z=(.exit 4,⟨86,[(0,JU a.1),(3,.sl 0 0 a.2.1.length),(4,iD a.2.2.2.2.2.2.1),(5,.sl 1 0 a.2.2.1.length),(7,.ref 2 0 0),(8,iD a.2.2.2.2.2.2.2),(9,.ref 3 0 0),(10,.d (.bool (a.2.2.2.2.2.1 ||a.2.1.any λe=>e.1==a.2.2.2.2.1)))],[(0,⟨0,none,wj false a.2.1⟩),(1,⟨0,none,qak false a.2.2.1⟩),(2,⟨0,none,uC a.2.2.2.1⟩),(3,⟨0,none,uC a.2.2.2.2.1⟩)]⟩))
 (by
  rintro⟨l,o,p,a,x,h,i,k⟩ b j ae h0 EC BD ⟨hc,hb⟩ hn bw
  try dsimp only at*
  (rw[<-Uz];delta gh gR ia Zg gP gC gD oS QS KP uD ZcH Zn Z4M ZO ZcF Zt vB sc HA JV nq Eh BT Za Z9 Zj)
  have e1:D.nth (o.map lB) j.toNat=lB o[j.toNat]:=aA _ _ _ BD;have lM:((o.take (j.toNat+1)).any λe=>e.1==x)=((o.take j.toNat).any (λe=>e.1==x)||o[j.toNat].1==x):=by rw[zag BD,zcg,zdd,List.any_nil,zbU]
  rw[e1];generalize o[j.toNat]=e at*
  have c1:(D.aj (D.ar (lB e) 0)==x.1&&(D.aj (D.ar (lB e) 1)==x.2.1&&true)&&(D.aj (D.ar (lB e) 2)==x.2.2&&true))=(e.1==x):=tj e.1 x;rw[c1];refine bM EC (ay (λD2=>ao (by omega) (hn true ⟨hc,?_⟩)) λBI=>ao ⟨h0,EC⟩ (ao (by rw[zaa];exact BD) (aq (qg9 _) (ao (by omega) (hn _ ⟨hc,?_⟩)))))
  ·rw[lM,<-zde,<-hb,D2];rfl
  rw[lM,<-zde,<-hb,BI];rfl)
 (by
  rintro⟨l,o,p,a,x,h,i,k⟩ b j ae hj ⟨hc,hb⟩ bw
  try dsimp only at*
  (rw[<-Uz];delta gh gR ia Zg gP gC gD oS QS KP uD ZcH Zn Z4M ZO ZcF Zt vB sc HA JV nq Eh BT Za Z9 Zj)
  refine mq (by omega) (bw _ (λh=>by cases h) ?_);rw[hb,zak])
 (by rintro s ae ⟨l,o,p,a,x,h,i,k,rfl,hc,hp⟩;refine⟨(l,o,p,a,x,h,i,k),h,rfl,⟨hc,by simp⟩,?_⟩;rintro z rfl;exact hp _ rfl)
theorem UO:LD X 107 8 (ah (aO 107 8) UC):=LD.idx (H:=[]) (hk:=[(13,ah (aO 107 13) UA)]) (by kernel_rfl) (by kernel_rfl) .nil (.cons UN .nil)
 (A:=List bO×List gN×List (List UInt8)×bO×Int) (B:=List gN) (λa o k=>Uy a.1 o a.2.2.1 (elA a.2.2.2.1 k.toNat) a.2.2.2.2 k) (λa=>a.2.2.1.length)
 (λa k o=>((0<=a.2.2.2.2/\a.2.2.2.2<a.1.length)/\D.nth (a.1.map lB) a.2.2.2.2.toNat=lB a.2.2.2.1/\a.2.2.1.length<=100000/\a.2.1.length+a.2.2.1.length<=1000000/\(0<=a.2.2.2.1.2.1.2.2/\a.2.2.2.1.2.1.2.2<=1000000000000))/\o=LK a.2.2.2.1 a.2.1 (a.2.2.1.take k))
 (λa z=>z=(.exit 2,el9 a.1 (LK a.2.2.2.1 a.2.1 a.2.2.1) a.2.2.2.2))
 (by
  rintro⟨l,o0,p,r,i⟩ o k ae h0 tG dQ ⟨⟨hi,hr,L6,hl,he⟩,ho⟩ hn bw
  try dsimp only at*
  (rw[<-UB];delta Zt nq Ap gR gP ia gC gD oS Yb Zn qG Za Z9 Zj Zg ZcK lr QS KP uD ZcH gh Z7 Z50 ZcF vB sc HA JV Eh BT Ay ZcI)
  have gf:0<=i/\i<((l.map lB).length:Int):=by rw[zaa];exact hi
  have lY:o.length<=o0.length+k.toNat:=by rw[ho];exact DO _ (by omega)
  have lM:=ze (r:=r) (o:=o0) dQ;rw[<-ho] at lM;have e1:D.nth (p.map D.str) k.toNat=D.str p[k.toNat]:=aA _ _ _ dQ;rw[hr];have hx:(r.2.1.1,r.2.1.2.1,r.2.1.2.2+k)=zI r k.toNat:=by unfold zI;rw[Int.toNat_of_nonneg h0]
  have c3:D.aj (D.ar (lB r) 3)=r.2.1.1:=rfl;have c4:D.aj (D.ar (lB r) 4)=r.2.1.2.1:=rfl;have c5:D.aj (D.ar (lB r) 5)=r.2.1.2.2:=rfl;rw[c3,c4,c5];have c1:(r.2.1.1==(0:Int)&&(r.2.1.2.1==(0:Int)&&true)&&(r.2.1.2.2+k==(0:Int)&&true))=(zI r k.toNat==aB):=by rw[<-hx];exact tj (r.2.1.1,r.2.1.2.1,r.2.1.2.2+k) aB
  rw[c1];have ha:elA r (k+1).toNat=zI r k.toNat:=by rw[show(k+1).toNat=k.toNat+1 by omega];rfl
  have hn: ∀o',o'=Uo o (zI r k.toNat) (elA r k.toNat) p[k.toNat]->ae (.normal,Uy l o' p (zI r k.toNat) i (k+1)):=λo' h=>by have:=hn o' ⟨⟨hi,hr,L6,hl,he⟩,by rw[lM];exact h⟩;rw[ha] at this;exact this
  generalize elA r k.toNat=a at*
  refine bM tG (ao gf (aq (UK _) (ao gf (aq (UK _) (ao (by omega) ⟨l,o,p,a,zI r k.toNat,zI r k.toNat==aB,i,k,by rw[<-hx],by omega,λb hb=>ay (λBI=> ?_) λD2=> ?_⟩)))))
  ·have hs:Uo o (zI r k.toNat) a p[k.toNat]=o++[(zI r k.toNat,a,p[k.toNat])]:=by
    unfold Uo;refine zam λh=> ?_;rw[zbu,hb,Bool.or_eq_false_iff] at BI;rcases h with h |h
    ·rw[h] at BI;simp at BI
    rw[h] at BI;simp at BI
   have hy:=hn _ hs.symm;rw[e1];have t2:D.agg [D.int .i64 (zI r k.toNat).1,D.int .i64 (zI r k.toNat).2.1,D.int .i64 (zI r k.toNat).2.2,D.int .i64 a.1,D.int .i64 a.2.1,D.int .i64 a.2.2,D.str (D.eJ (D.str p[k.toNat]))]=lB (zI r k.toNat,a,p[k.toNat]):=rfl;rw[t2,cv];simp only[Uy,zan] at hy;refine ao ⟨h0,tG⟩ (ao (by rw[zaa];exact dQ) (aq (qi0 _) (aq (ep rfl (by rw[zaa]) (by omega) (by decide)) (ao (by omega) ?_))));exact hy
  have hs:Uo o (zI r k.toNat) a p[k.toNat]=o:=by unfold Uo;refine zao ?_;rw[zcS,hb,zba,zaR] at D2;exact D2
  exact ao (by omega) (hn _ hs.symm))
 (by
  rintro⟨l,o0,p,r,i⟩ o k ae hk ⟨⟨hi,hr,L6,hl,he⟩,ho⟩ bw
  try dsimp only at*
  (rw[<-UB];delta Zt nq Ap gR gP ia gC gD oS Yb Zn qG Za Z9 Zj Zg ZcK lr QS KP uD ZcH gh Z7 Z50 ZcF vB sc HA JV Eh BT Ay ZcI)
  refine mq (by omega) (bw _ (λh=>by cases h) ?_);rw[ho,zak])
 (by rintro s ae ⟨l,o,p,r,i,rfl,hc,hr,hp⟩;refine⟨(l,o,p,r,i),o,rfl,⟨⟨⟨hc.1,hc.2.1⟩,hr,hc.2.2.2.1,hc.2.2.2.2.1,hc.2.2.2.2.2⟩,by simp[LK]⟩,?_⟩;rintro z rfl;exact hp _ rfl)
theorem qar:LD X 107 3 (ah (aO 107 3) qer):=LD.idx (H:=[(144,sY)]) (hk:=[(8,ah (aO 107 8) UC)]) (by kernel_rfl) (by kernel_rfl) (.cons F5 .nil) (.cons UO .nil)
 (A:=List bO) (B:=List gN) (λl o i=>el9 l o i) (λl=>l.length)
 (λl i o=>mx l/\o=GM (l.take i))
 (λl z=>z=(.exit 0,⟨86,[(3,.sl 0 0 (GM l).length)],[(0,⟨0,none,wj false (GM l)⟩)]⟩))
 (by
  rintro l o i ae h0 bQ bj ⟨hc,ho⟩ hn bw
  try dsimp only at*
  (rw[<-UD];delta QS KP JV QT uD Zn vr Eh BT Za Z9 Zj ZcN Z7 Jx sc HA Zt nq ZcM Zg Ay ZcL Z1Q zD QU rJ Hc Zx vi ZcI)
  have e1:D.nth (l.map lB) i.toNat=lB l[i.toNat]:=aA _ _ _ bj;have lM:=zf bj;rw[<-ho] at lM;have h1:=wX (l:=l) i.toNat (by omega);rw[<-ho] at h1;have h2:=BS bj;have h3:=Ur l (i.toNat+1);have h4:=hc.2.1;have hl1:=hc.1;have h5:=hc.2.2 _ (zas bj);have h6:=zi l[i.toNat].2.2;have gf:0<=i/\i<((l.map lB).length:Int):=by rw[zaa];exact⟨h0,bQ⟩
  rw[e1];generalize l[i.toNat]=r at*
  have hn: ∀o',o'=elR o r->ae (.normal,el9 l o' (i+1)):=λo' h=>hn o' ⟨hc,by rw[lM];exact h⟩;have qQ: ∀p,p=pV r.2.2->0<=i/\i<(l.length:Int)/\l.length<=1000000/\p.length<=100000/\o.length+p.length<=1000000/\(0<=r.2.1.2.2/\r.2.1.2.2<=1000000000000):=λp hp=>by subst hp;exact⟨h0,bQ,hc.1,by omega,by omega,h5.2⟩
  refine bM gf.2 (ao gf (aq (UK _) ⟨r.2.2,rfl,rfl,by omega,λhv=>ao gf (aq (UK _) ?_),λhv p hp=>ao gf (aq (UK _) ?_)⟩))
  ·have hp:[]=pV r.2.2:=by unfold pV;rw[hv];rfl
   exact⟨l,o,[],r,i,rfl,qQ _ hp,e1,λo' gb=>ao (by omega) (hn o' (by rw[gb];unfold elR;rw[<-hp]))⟩
  have hp:p=pV r.2.2:=by unfold pV;rw[hv,zao rfl];exact hp
  exact⟨l,o,p,r,i,rfl,qQ _ hp,e1,λo' gb=>ao (by omega) (hn o' (by rw[gb];unfold elR;rw[<-hp]))⟩)
 (by
  rintro l o i ae hi ⟨hc,ho⟩ bw
  try dsimp only at*
  (rw[<-UD];delta QS KP JV QT uD Zn vr Eh BT Za Z9 Zj ZcN Z7 Jx sc HA Zt nq ZcM Zg Ay ZcL Z1Q zD QU rJ Hc Zx vi ZcI)
  refine mq (by rw[zaa];omega) (bw _ (λh=>by cases h) ?_);rw[ho,zak])
 (by rintro s ae ⟨l,rfl,hc,hp⟩;refine⟨l,[],rfl,⟨hc,rfl⟩,?_⟩;rintro z rfl;exact hp _ rfl)
theorem qhc:FD X 107 qes:=FD.mk (H:=[]) (hk:=[(3,ah (aO 107 3) qer)]) (by kernel_rfl) .nil (.cons qar .nil) (by
 intro ps R ae hh;obtain⟨l,rfl,rfl,hs,hp⟩:=hh
 (rw[<-qg6];delta uD Z7 Ng ZQ RU BT ZcO)
 exact⟨l,rfl,hs,λo ho=>hp o ho⟩)
theorem UP:LD X 80 8 (ah (aO 80 8) UE):=LD.ins (H:=[(88,iS)]) (hk:=[]) (by kernel_rfl) (by kernel_rfl) (.cons mQ .nil) .nil
 (A:=List gN×Nat×Int) (α:=av) (λa o k=>qan a.1 o a.2.1 a.2.2 k) mj (λa=>a.2.1) (λ_=>True) (λa o=>(.exit 2,⟨64,[(5,.sl 0 0 a.1.length),(6,.sl 1 0 a.2.1),(7,iD a.2.2)],[(0,⟨0,none,wj false a.1⟩),(1,⟨0,none,iw false o⟩)]⟩)) (λ_ _ h=>by cases h)
 (by
  rintro⟨l,n,i⟩ o k ae _ h0 Hr lY hk hz b7 ec
  try dsimp only at*
  subst Hr
  (rw[<-qet];delta gu Hq uD Zt rX JA VR ZcQ Zg I6 I7 I8 M9 Zc Vq Vz Z8j Zs Z8i SD Zx ZE Hb SE Ov pL Z8f wQ Za Z9 Zb wJ SU mC Zr)
  refine cE (λhp=> ?_) λhp=>hz (by omega);have fV:k.toNat-1<o.length:=by omega
  have ek:(k-1).toNat=k.toNat-1:=by omega
  have e1:D.nth (o.map bE) k.toNat=bE o[k.toNat]:=aA _ _ _ hk;have e2:D.nth (o.map bE) (k.toNat-1)=bE o[k.toNat-1]:=aA _ _ _ fV;have b7:=b7 hp;have ec:=ec hp;have yW:=kB bE o k.toNat o[k.toNat] o[k.toNat-1];have e3: ∀z,D.nth ((o.map bE).set k.toNat z) (k.toNat-1)=bE o[k.toNat-1]:=λz=>by unfold D.nth;rw[zac,zaX (by omega)];simp[fV]
  rw[ek,e1,e2];simp only[e3];generalize o[k.toNat]=x at*
  generalize o[k.toNat-1]=y at*
  simp only[zaa,zbf] at ec⊢;have yX:0<=k/\k<(o.length:Int):=⟨h0,by omega⟩
  have yY:0<=k-1/\k-1<(o.length:Int):=⟨by omega,by omega⟩
  have hf:(-9223372036854775808:Int)<=k-1/\k-1<=9223372036854775807:=by omega
  refine ao yX (ao hk (aq (lJ _) (ao hf (ao yY (ao fV (aq (lJ _) ⟨(x).1,(x).2.1,(x).2.2,(y).1,(y).2.1,(y).2.2,rfl,rfl,cE (λh=> ?_) λh=>b7 (by rw[<-zaP];exact λh2=>h ((h9 (x) (y)).2 h2))⟩))))));have hy:=ec ((h9 (x) (y)).1 h);simp only[qan,iw] at hy;rw[<-yW] at hy;refine ao hf (ao hf (ao yY (ao fV (aq (lJ _) (ao yX (ao hk (aq (lJ _) (ao yX (ao hk (aq (lJ _) (ao yY (ao fV (aq (lJ _) (ao hf ?_))))))))))))));exact hy)
 (by rintro s ae ⟨l,o,x,n,i,k,rfl,⟨hk,hn,ho⟩,hp⟩;refine⟨(l,n,i),o,x,k,rfl,hk,trivial,⟨hn.symm,ho⟩,?_⟩;have:=hp _ rfl;rw[es9,lv,<-hn] at this;exact this)
theorem qas:LD X 80 4 (ah (aO 80 4) qeu):=LD.idx (H:=[]) (hk:=[(8,ah (aO 80 8) UE)]) (by kernel_rfl) (by kernel_rfl) .nil (.cons UP .nil)
 (A:=List gN) (B:=List av) (λl o i=>es9 l o i) (λl=>l.length) (λl i o=>l.length<=1000000/\o=cj mj ((l.take i).map (·.1)))
 (λl x=>x=(.exit 0,⟨64,[(6,.sl 0 0 (cj mj (l.map (·.1))).length)],[(0,⟨0,none,iw false (cj mj (l.map (·.1)))⟩)]⟩))
 (by
  rintro l o i ae h0 bQ bj ⟨hm,ho⟩ hn bw
  try dsimp only at*
  (rw[<-UF];delta gu Hq uA ib qH Zn ZL Za Z9 Zj pS wi Z8u Zt vB NL JA uD rX VR Zg ZcR ZcS pL)
  have lY:o.length<=i.toNat:=by rw[ho,mV,zaa,zay];exact Nat.min_le_left _ _
  have e1:D.nth (l.map lB) i.toNat=lB l[i.toNat]:=aA _ _ _ bj;have kC:cj mj ((l.take (i.toNat+1)).map (·.1))=cL mj o l[i.toNat].1:=by rw[zag bj,zaz,List.map_singleton,yN,ho]
  have fS:=λo' (gb:o'=cL mj o l[i.toNat].1)=>hn o' ⟨hm,by rw[kC];exact gb⟩;generalize l[i.toNat]=d at*
  rw[e1];have t1:List.take o.length (o.map bE)++[bE d.1]=(o++[d.1]).map bE:=cv bE o d.1;simp only[zaa,zap,zat,zaG];refine bM bQ (ao ⟨h0,bQ⟩ (ao bj (aq (qg9 _) (aq ?_ (ao (by omega) ⟨l,o,d.1,o.length+1,i,((o.length+1:Nat):Int)-1,congrArg (λz=>(⟨64,[(5,.sl 0 0 l.length),(6,.sl 1 0 (o.length+1)),(7,iD i),(8,iD (((o.length+1:Nat):Int)-1))],[(0,⟨0,none,wj false l⟩),(1,⟨0,none,.arr 50 false z⟩)]⟩:S)) t1,⟨by omega,rfl,by omega⟩,λo' gb=>ao (by omega) (fS o' gb)⟩)))));rw[zab];exact⟨by simp,cq (by omega) (by omega)⟩)
 (by
  rintro l o i ae hi ⟨hm,ho⟩ bw
  try dsimp only at*
  (rw[<-UF];delta gu Hq uA ib qH Zn ZL Za Z9 Zj pS wi Z8u Zt vB NL JA uD rX VR Zg ZcR ZcS pL)
  refine mq (by omega) (bw _ (λh=>by cases h) ?_);rw[ho,zak])
 (by rintro s ae ⟨l,rfl,hs,hp⟩;refine⟨l,[],rfl,⟨hs,rfl⟩,?_⟩;rintro x rfl;exact hp _ rfl)
theorem qhd:FD X 80 qev:=FD.mk (H:=[(59,qem),(107,qes)]) (hk:=[(4,ah (aO 80 4) qeu)]) (by kernel_rfl) (.cons qha (.cons qhc .nil)) (.cons qas .nil) (by
 intro ps R ae hh;obtain⟨l,x,rfl,rfl,⟨hs,h2,hr⟩,hp⟩:=hh
 (rw[<-qg7];delta gu Hq uA ib qH Lv uD Z7 rI zD Z7V VR ZcT fu mB Zcv Zx gR gP ia gC gD um iU cW dq)
 refine⟨l,x,rfl,rfl,⟨hs,h2⟩,λr uI=>⟨r,by rw[zai (by simp)],rfl,by rw[uI];exact hr,λo ho=>⟨o,rfl,?_,λo' gb=>hp o' ?_⟩⟩⟩
 ·have:=wX (l:=r) _ (zaj _);rw[zak,<-ho] at this;have:=hr.2.1;rw[<-uI] at this;omega
 rw[gb,ho,uI];rfl)
end
structure cC where
 what:Int
 r:Int
 a:Int
 b:Int
 c:Int
 see:Bool
abbrev uE(n:Int):D:= .int .u8 n
def wk(x:cC):D:= .agg [uE x.what,uE x.r,uE x.a,uE x.b,uE x.c,.bool x.see]
structure DS(x:cC):Prop where
 what:0<=x.what/\x.what<=255
 r:0<=x.r/\x.r<=255
 a:0<=x.a/\x.a<=255
 b:0<=x.b/\x.b<=255
 c:0<=x.c/\x.c<=255
def wD(l:List ak)(K:List (List Int)):D:= .agg [.sl 7 (l.map aV),.sl 1 (K.map λv=> .sl 1 (aZ v))]
def UQ:br:=λps R ae=> ∃(l:List av) (n:Int),ps=[cR l,.d (uE n)]/\R=[]/\(l.length<=1000000/\0<=n/\n<=255)/\ ∀y,(y=aB\/y∈l)->ae (.d (bE y),[])
def Zdc(x:cC)(o:List av):Int:=Int.tmod (cC.b x) (wi o)+(1:Int)+Int.tmod (cC.c x) (3:Int)
def Zd7(x:cC):Bool:=decide (Z9<=cC.c x/\cC.c x<=Za)
def Zdb(ae:P×List (Nat×En)->Prop):Prop:=ae (P.cX (P.d (D.agg (Z7::Z7::Z7::Z7::Z7::Z7::Z7::yn::Xn))::Vp),[])
def Zdd(l:List ak)(y:av)(ae:P×List (Nat×En)->Prop)(x:cC):Prop:= ∃(DT:List ak) (aJ:av),dq l::iU y=dq DT::iU aJ/\Zx/\(mB DT/\df DT<=1000/\mx (fy DT aJ))/\ ∀(o:List av),o=JT DT aJ->bif Z2y y then Zdb ae else bif wi o==(0:Int) then Zdb ae else bif decide (Z9<=cC.b x/\cC.b x<=Za) then bif !decide (wi o=(0:Int)) then bif decide (Z9<=Int.tmod (cC.b x) (wi o)+(1:Int)/\Int.tmod (cC.b x) (wi o)+(1:Int)<=Za) then bif Zd7 x then bif decide (Z9<=Zdc x o/\Zdc x o<=Za) then bif decide ((0:Int)<=min (wi o) (Zdc x o)/\min (wi o) (Zdc x o)<=wi o) then bif decide ((0:Int)<=Int.tmod (cC.b x) (wi o)/\Int.tmod (cC.b x) (wi o)<=(↑(Int.toNat (min (wi o) (Zdc x o))):Int)) then ae (P.cX (P.d (D.agg [D.int .i64 (4:Int),gD y,gC y,gP y,Z7,Z7,Z7,yn,Z3,M8,Z7,Z7,Z7,Z7,Z7,Z7,yn,D.sl 3 (List.take (Int.toNat (min (wi o) (Zdc x o))-Int.toNat (Int.tmod (cC.b x) (wi o))) (List.drop (Int.toNat (Int.tmod (cC.b x) (wi o))) (gu o)))])::Ou),[]) else False else False else False else False else False else False else False
def Zd6(y:av):List P:=[P.d (D.bool !Z2y y)]
def Zd8(x:cC):Int:=Int.tmod (cC.c x) (5:Int)+(1:Int)
def Zd9(x:cC):Int:=Zd8 x+Int.tmod (cC.c x) (2:Int)
def Zd3(y:av)(mZ:List av):Prop:=y=aB\/y∈mZ
def Zd2(mZ:List av)(n:Int):Prop:=pS mZ/\(0:Int)<=n/\n<=(255:Int)
def Zd0(mZ:List av)(n:Int):List P:=[lL mZ,P.d (D.int .u8 n)]
def Zda(x:cC)(l:List ak)(y:av)(ae:P×List (Nat×En)->Prop)(s:az):Prop:=bif Zd7 x then∃(DT:List ak) (aJ:av),dq l::iU y=dq DT::iU aJ/\Zx/\(mB DT/\df DT<=1000/\mx (fy DT aJ))/\ ∀(o:List av),o=JT DT aJ-> ∃(l:List av) (n:Int),[T1 o,P.d (D.int .u8 (cC.b x))]=Zd0 l n/\Zx/\Zd2 l n/\ ∀(C5:av),Zd3 C5 l->bif decide (Z9<=Zd8 x/\Zd8 x<=Za) then bif Zd7 x then bif decide (Z9<=Zd9 x/\Zd9 x<=Za) then bif decide ((0:Int)<=Zd9 x/\Zd9 x<=(6:Int)) then bif decide ((0:Int)<=Int.tmod (cC.c x) (5:Int)/\Int.tmod (cC.c x) (5:Int)<=(↑(Int.toNat (Zd9 x)):Int)) then ae (P.cX (P.d (D.agg (D.int .i64 (3:Int)::gD y::gC y::gP y::Z7::Z7::Z7::yn::Z3::M8::gD C5::gC C5::gP C5::ln s::ll s::Z7::D.str (List.drop (Int.toNat (Int.tmod (cC.c x) (5:Int))) (List.take (Int.toNat (Zd9 x)) [(117:UInt8),(118:UInt8),(119:UInt8),(120:UInt8),(121:UInt8),(122:UInt8)]))::Z2N))::Zd6 y),[]) else False else False else False else False else False else False
def ZcZ(x:cC):Int:=IntKind.wrap IntKind.u8 (Int.tmod (cC.b x) (3:Int)+(1:Int))
def Zd5(x:cC):D:=D.str (List.drop (Int.toNat (Int.tmod (cC.b x) (3:Int))) (List.take (Int.toNat (ZcZ x)) [(97:UInt8),(98:UInt8),(99:UInt8)]))
def UR(x:cC):Int:=Int.tmod (cC.what x) (8:Int)
def Zd1(aP:List av)(x:cC)(mZ:List av)(n:Int):Prop:=[T1 aP,P.d (D.int .u8 (cC.a x))]=Zd0 mZ n
theorem qi1(l:List ak)(s:az)(x:cC)(ae:P×List (Nat×En)->Prop):(∃(au:List ak) (b:Bool),dq l::Ou=[dq au,gh b]/\Zx/\Zcv au/\ ∀(o:List av),o=tv b au-> ∃(iG:List ak) (b:Bool),dq l::Vp=[dq iG,gh b]/\Zx/\Zcv iG/\ ∀(aP:List av),aP=tv b iG->bif decide ((0:Int)<=ZcZ x/\ZcZ x<=(3:Int)) then bif decide ((0:Int)<=Int.tmod (cC.b x) (3:Int)/\Int.tmod (cC.b x) (3:Int)<=(↑(Int.toNat (ZcZ x)):Int)) then∃(mZ:List av) (n:Int),Zd1 aP x mZ n/\Zx/\Zd2 mZ n/\ ∀(y:av),Zd3 y mZ->bif UR x==(0:Int) then∃(l:List av) (n:Int),Zd1 o x l n/\Zx/\Zd2 l n/\ ∀(y:av),Zd3 y l->ae (P.cX (P.d (D.agg (Z7::ln s::ll s::Z7::gD y::gC y::gP y::Zd5 x::D.bool true::M8::Ra))::Ou),[]) else bif UR x==(1:Int) then∃(l:List av) (n:Int),Zd1 o x l n/\Zx/\Zd2 l n/\ ∀(y:av),Zd3 y l->ae (P.cX (P.d (D.agg (Z7::ln s::ll s::Z7::gD y::gC y::gP y::Zd5 x::Xn))::Ou),[]) else bif UR x==(2:Int) then∃(a:List av) (b:List av),[T1 aP,T1 o]=[lL a,lL b]/\Zx/\(pS a/\pS b)/\ ∀(T2:List av),T2=a++b-> ∃(l:List av) (n:Int),[T1 T2,P.d (D.int .u8 (cC.c x))]=Zd0 l n/\Zx/\Zd2 l n/\ ∀(y:av),Zd3 y l-> ∃(l:List av) (n:Int),Zd1 o x l n/\Zx/\Zd2 l n/\ ∀(C5:av),Zd3 C5 l->ae (P.cX (P.d (D.agg (ZR::gD y::gC y::gP y::gD C5::gC C5::gP C5::Zd5 x::Xn))::Zd6 y),[]) else bif UR x==(3:Int) then∃(a:List av) (b:List av),[T1 aP,T1 o]=[lL a,lL b]/\Zx/\(pS a/\pS b)/\ ∀(o:List av),o=a++b-> ∃(DT:List av) (n:Int),[T1 o,P.d (D.int .u8 (cC.c x))]=Zd0 DT n/\Zx/\Zd2 DT n/\ ∀(y:av),Zd3 y DT-> ∃(l_5:List ak),Ec l l_5/\Zx/\SmS l_5/\ ∀(o:List az) (t:Tl) (p:List Pl) (x:List It),o=Jn l_5->t=wg o (aI l_5)->p=T3 (aI l_5) t->x=qgX (aI l_5) t-> ∃(h:List bf) (g:List bf) (x:av),P.d (D.sl 5 (List.map jv (Tl.h t)))::P.d (D.sl 5 (List.map jv (Tl.g t)))::iU y=Av h::Av g::iU x/\Zx/\(BH h/\BH g)/\ ∀(o:List az),o=sP h g x->ae (P.cX (P.d (D.agg (Xa::gD y::gC y::gP y::Z7::Z7::Z7::yn::Z3::T0 o::Ra))::Zd6 y),[]) else bif UR x==(4:Int) then bif UR x==(4:Int) then Zda x l y ae s else Zdd l y ae x else bif UR x==(5:Int) then Zda x l y ae s else Zdd l y ae x else False else False)=(aK [(76,qex),(77,UQ),(78,hJn),(32,T4),(79,qep),(80,qev)] [] 50 [bT l,.d (bh s),.d (wk x)] []) ae:=by kernel_rfl
def Zdf(l:List av)(n:Int)(c:Int):D:=D.nth (gu l) (Int.toNat (Int.tmod n (c+(1:Int))))
def Zde(n:Int):Bool:=decide (Z9<=n/\n<=Za)
theorem qeB(l:List av)(n:Int)(ae:P×List (Nat×En)->Prop):(bif Zde n then∀(c:Int),c=vp l->bif Zj c then bif !decide (c+(1:Int)=(0:Int)) then bif Int.tmod n (c+(1:Int))==vp l then ae (P.d (D.agg [Z7,Z7,Z7]),[]) else bif decide ((0:Int)<=Int.tmod n (c+(1:Int))/\Int.tmod n (c+(1:Int))<vp l) then bif cD PR (50:TypeId) (Zdf l n c) then ae (P.d (D.agg [D.int .i64 (D.aj (D.ar (Zdf l n c) 0)),D.int .i64 (D.aj (D.ar (Zdf l n c) 1)),D.int .i64 (D.aj (D.ar (Zdf l n c) 2))]),[]) else False else False else False else False else False)=(aK [] [] 77 [cR l,.d (uE n)] []) ae:=by kernel_rfl
def qeC:br:=λps R ae=> ∃(i:Int) (l:List ak) (v:List Int) (r:Int) (x:cC),ps=[bT (aT l v),.d (bh (fO l v r)),.d (wk x)]/\R=[]/\(bx i l/\(0<=i/\i<=100)/\DS x)/\ ∀o (b:Bool),(b=true->OpW l v r o)->ae (.cX [.d (eI o),.d (.bool b)],[])
abbrev arV(z:Bool)(l:List (List Int)):Obj:= .arr 31 z (l.map λv=> .sl 1 (aZ v))
abbrev bxW(l:List ak)(K:List (List Int)):Obj:= .box 62 [bT l,.d (.sl 1 (K.map λv=> .sl 1 (aZ v)))]
abbrev qeD(x:cC):Obj:= .box 41 [.d (uE x.what),.d (uE x.r),.d (uE x.a),.d (uE x.b),.d (uE x.c),.d (.bool x.see)]
abbrev dn5(l:List ak)(K:List (List Int))(x:cC)(r:Int)(v:List Int)(i:Int):S:=⟨120,[(2,.ref 0 0 0),(3,.ref 1 0 0),(4,.ref 2 0 0),(5,iD r),(6,vD v),(7,iD i)],[(0,⟨0,none,bxW l K⟩),(1,⟨0,none,qeD x⟩),(2,⟨0,none,.box 62 [.sl 3 0 0,.sl 4 0 0]⟩),(3,⟨0,none,qC false []⟩),(4,⟨0,none,arV false []⟩)]⟩
def Ei(K:List (List Int)):List D:=List.map (λ(v:List Int)=>D.sl 1 (aZ v)) K
def OM(l:List ak)(K:List (List Int)):Nat×En:=(0,En.mk 0 none (Obj.box (62:TypeId) [dq l,P.d (D.sl 1 (Ei K))]))
def Zdi(l:List ak)(K:List (List Int))(x:cC):List (Nat×En):=[OM l K,(1,En.mk 0 none (Obj.box (41:TypeId) [P.d (D.int .u8 (cC.what x)),P.d (D.int .u8 (cC.r x)),P.d (D.int .u8 (cC.a x)),P.d (D.int .u8 (cC.b x)),P.d (D.int .u8 (cC.c x)),P.d (D.bool (cC.see x))])),(2,En.mk 0 none (Obj.box (62:TypeId) [P.sl 3 0 0,P.sl 4 0 0])),(3,OC),(4,En.mk 0 none (Obj.arr (31:TypeId) false []))]
theorem qbv(l:List ak)(K:List (List Int))(x:cC)(r:Int)(v:List Int)(i:Int)(ae:PX×S->Prop):(bif decide (i<(↑(List.length (Ei K)):Int)) then bif decide ((0:Int)<=i/\i<(↑(List.length (Ei K)):Int)) then bif cD PR (31:TypeId) (D.nth (Ei K) (Zg i)) then∃(de:List Int) (w:List Int),[Zk v,P.d (D.sl 1 (D.fa (D.nth (Ei K) (Zg i))))]=Zk de::ZW w/\Zx/\(iQ de/\iQ w)/\bif Zj i then ae (PX.normal,S.mk 120 (Jg::sa::(4,sc)::Eb r::(6,P.d (D.sl 1 (aZ (mh de w))))::ZL i) (Zdi l K x)) else False else False else False else ae (PX.exit 0,S.mk 120 [Jg,sa,(4,sc),Eb r,(6,Zk v)] (Zdi l K x)))=(aG [(47,IF)] [] 29 5 (dn5 l K x r v i)) ae:=by kernel_rfl
def mgA(v:List Int)(K:List (List Int)):List Int:=K.foldl mh v
def JY(v:List Int)(K:List (List Int)):Prop:=K.length<=1000/\cQ v=true/\ ∀w∈K,cQ w=true
def qeE:S->K (PX×S):=λs ae=> ∃l K x r v,s=dn5 l K x r v 0/\JY v K/\ ∀w,w=mgA v K->ae (.exit 0,⟨120,[(2,.ref 0 0 0),(3,.ref 1 0 0),(4,.ref 2 0 0),(5,iD r),(6,vD w)],[(0,⟨0,none,bxW l K⟩),(1,⟨0,none,qeD x⟩),(2,⟨0,none,.box 62 [.sl 3 0 0,.sl 4 0 0]⟩),(3,⟨0,none,qC false []⟩),(4,⟨0,none,arV false []⟩)]⟩)
def US(x:cC):Int:=(1:Int)+Int.tmod (cC.r x) (3:Int)
def Zdl(x:cC):Nat:=Int.toNat (US x-(1:Int))
def Oc(re:List (List Int)):List D:=[]++Ei re
def Zdu(re:List (List Int)):Nat:=0+List.length (Ei re)
def ZdH(K:List (List Int))(x:cC)(w:List Int):List D:=[D.sl 1 (List.take (Zdu K) (List.set (Oc K) (Zdl x) (D.aW (D.sl 1 (D.fa (D.nth (Oc K) (Zdl x)))) [D.sl 1 (aZ w)])))]
def ZdG(x:cC)(K:List (List Int)):Bool:=decide ((0:Int)<=US x-(1:Int)/\US x-(1:Int)<(↑(Zdu K):Int))
def ZdF(o:aX):List D:=[Z7,Z7,D.sl 18 [Ak o]]
def VS(aJ:cC):List P:=[P.d (D.agg [D.int .u8 (cC.what aJ),D.int .u8 (cC.r aJ),D.int .u8 (cC.a aJ),D.int .u8 (cC.b aJ),D.int .u8 (cC.c aJ),D.bool (cC.see aJ)])]
def ZdE(mZ:List ak)(v:List Int)(vn:Int)(x:cC):List P:=P.d (D.sl 7 (List.map aV (aT mZ v)))::P.d (D.agg [D.int .i64 (Prod.fst (fO mZ v vn)),D.int .i64 (Prod.snd (fO mZ v vn))])::VS x
def ZdC(re:List (List Int))(r:Int)(DZ:List Int):List D:=[D.sl 1 (List.take (Zdu re) (List.set (Oc re) (Zc r) (D.aW (D.sl 1 (D.fa (D.nth (Oc re) (Zc r)))) [D.sl 1 (aZ DZ)])))]
def ZdB(au:List ak):List D:=List.take (0+fH au) ([]++cW au)
def Zds(o:List ak)(aJ:cC):D:=D.nth (cW o) (Int.toNat (Int.tmod (cC.a aJ) (ot o)))
def ZdA(o:List ak)(aJ:cC):List D:=[D.int .i64 (D.aj (D.ar (Zds o aJ) 0)),D.int .i64 (D.aj (D.ar (Zds o aJ) 1)),D.sl 18 []]
def Zdz(au:List ak):Bool:=Nat.ble (0+fH au) (List.length ([]++cW au))
def Zdy(au:List ak):Bool:=Nat.ble 0 0&&aM (0+fH au) 88
def Zdw(r:Int)(re:List (List Int)):Bool:=decide ((0:Int)<=r-(1:Int)/\r-(1:Int)<(↑(Zdu re):Int))
def Zdv(re:List (List Int)):Bool:=Nat.ble 0 0&&aM (Zdu re) 24
def GU(l:List Int)(cB:Int):D:=D.int .i64 (eG l cB+(1:Int))
def Zdr(aJ:cC)(o:List ak):Bool:=decide ((0:Int)<=Int.tmod (cC.a aJ) (ot o)/\Int.tmod (cC.a aJ) (ot o)<ot o)
def Zdq(aJ:cC):Bool:=decide (Z9<=cC.a aJ/\cC.a aJ<=Za)
def ON(au:List ak)(re:List (List Int)):P:=P.d (D.agg [D.sl 7 (cW au),D.sl 1 (Ei re)])
def Zdo(l:List Int)(cB:Int):Bool:=decide (Z9<=eG l cB+(1:Int)/\eG l cB+(1:Int)<=Za)
def OO(K:List (List Int))(x:cC):D:=D.sl 1 (D.fa (D.nth (Ei K) (Zdl x)))
def OP(x:cC):D:=D.int .i64 (US x)
def Zdk(x:cC):Bool:=decide (Z9<=US x-(1:Int)/\US x-(1:Int)<=Za)
theorem qi2(l:List ak)(K:List (List Int))(x:cC)(ae:P×List (Nat×En)->Prop):(bif decide (Z9<=cC.r x/\cC.r x<=Za) then bif decide (Z9<=US x/\US x<=Za) then bif Zdk x then bif decide ((0:Int)<=US x-(1:Int)/\US x-(1:Int)<(↑(List.length (Ei K)):Int)) then bif cD PR (31:TypeId) (D.nth (Ei K) (Zdl x)) then bif cC.see x then∃(au:List ak) (re:List (List Int)) (aJ:cC) (r:Int) (v:List Int),S.mk 120 (Jg::sa::(4,sc)::(5,P.d (OP x))::(6,P.d (OO K x))::rI) (Zdi l K x)=S.mk 120 (Jg::sa::(4,sc)::Eb r::(6,Zk v)::rI) (Zdi au re aJ)/\JY v re/\ ∀(w:List Int),w=mgA v re-> ∃(l:List ak) (v:List Int),dq au::ZW w=dq l::ZW v/\Zx/\(mB l/\Hh v)/\ ∀(o:List ak),o=aT l v-> ∃(l:List Int) (cB:Int),Zw w r l cB/\Zx/\Zz l/\bif Zdo l cB then∃(iG:List ak),ZbP o iG/\Zx/\mB iG/\ ∀(t:Int),t=jD iG->bif Zj t then bif UR aJ==(7:Int) then bif ot o==(0:Int) then ae (ON au re,[]) else bif Zdq aJ then bif !decide (ot o=(0:Int)) then bif Zdr aJ o then bif decide (Int.toNat (Int.tmod (cC.a aJ) (ot o))<fH o) then bif cD PR (34:TypeId) (Zds o aJ) then∃(v:List Int) (vn:Int) (n:Int),[Zk w,P.d (Zt r),P.d (GU l cB)]=Z9c v vn n/\Zx/\Z9d v vn/\ ∀(DZ:List Int),DZ=bq (gK v vn n)->bif Zdv re then bif Zb r then bif Zdw r re then bif decide (Zc r<List.length (Oc re)) then bif cD PR (31:TypeId) (D.nth (Oc re) (Zc r)) then bif Zdy au then bif Zdz au&&aM (0+fH au+List.length [D.agg (Zn t::Zt r::GU l cB::D.sl 1 (aZ w)::ZdA o aJ)]) 88 then ae (P.d (D.agg (D.sl 7 (List.take (0+fH au+List.length [D.agg (Zn t::Zt r::GU l cB::D.sl 1 (aZ w)::ZdA o aJ)]) (ZdB au++[D.agg (Zn t::Zt r::GU l cB::D.sl 1 (aZ w)::ZdA o aJ)]))::ZdC re r DZ)),[]) else False else False else False else False else False else False else False else False else False else False else False else False else∃(i:Int) (mZ:List ak) (v:List Int) (vn:Int) (x:cC),ZbO o::P.d (D.agg (Zn t::ZE r))::VS aJ=ZdE mZ v vn x/\Zx/\(bx i mZ/\((0:Int)<=i/\i<=(100:Int))/\DS x)/\ ∀(o:aX) (b:Bool),(b=true->OpW mZ v vn o)->bif lr b then ae (ON au re,[]) else∃(v:List Int) (UT:Int) (n:Int),[Zk w,P.d (Zt r),P.d (GU l cB)]=Z9c v UT n/\Zx/\Z9d v UT/\ ∀(DZ:List Int),DZ=bq (gK v UT n)->bif Zdv re then bif Zb r then bif Zdw r re then bif decide (Zc r<List.length (Oc re)) then bif cD PR (31:TypeId) (D.nth (Oc re) (Zc r)) then bif Zdy au then bif Zdz au&&aM (0+fH au+List.length [D.agg (Zn t::Zt r::GU l cB::D.sl 1 (aZ w)::ZdF o)]) 88 then ae (P.d (D.agg (D.sl 7 (List.take (0+fH au+List.length [D.agg (Zn t::Zt r::GU l cB::D.sl 1 (aZ w)::ZdF o)]) (ZdB au++[D.agg (Zn t::Zt r::GU l cB::D.sl 1 (aZ w)::ZdF o)]))::ZdC re r DZ)),[]) else False else False else False else False else False else False else False else False else False else∃(au:List ak) (v:List Int),[dq l,P.d (OO K x)]=dq au::ZW v/\Zx/\(mB au/\Hh v)/\ ∀(o:List ak),o=aT au v-> ∃(iG:List Int) (r:Int),[P.d (OO K x),P.d (OP x)]=Zk iG::Zv r/\Zx/\Zz iG/\bif Zdo iG r then∃(mZ:List ak),ZbP o mZ/\Zx/\mB mZ/\ ∀(t:Int),t=jD mZ->bif Zj t then bif UR x==(7:Int) then bif ot o==(0:Int) then ae (ON l K,[]) else bif Zdq x then bif !decide (ot o=(0:Int)) then bif Zdr x o then bif decide (Int.toNat (Int.tmod (cC.a x) (ot o))<fH o) then bif cD PR (34:TypeId) (Zds o x) then∃(v:List Int) (cB:Int) (n:Int),[P.d (OO K x),P.d (OP x),P.d (GU iG r)]=Z9c v cB n/\Zx/\Z9d v cB/\ ∀(w:List Int),w=bq (gK v cB n)->bif Zdv K then bif Zdk x then bif ZdG x K then bif decide (Zdl x<List.length (Oc K)) then bif cD PR (31:TypeId) (D.nth (Oc K) (Zdl x)) then bif Zdy l then bif Zdz l&&aM (0+fH l+List.length [D.agg (Zn t::OP x::GU iG r::OO K x::ZdA o x)]) 88 then ae (P.d (D.agg (D.sl 7 (List.take (0+fH l+List.length [D.agg (Zn t::OP x::GU iG r::OO K x::ZdA o x)]) (ZdB l++[D.agg (Zn t::OP x::GU iG r::OO K x::ZdA o x)]))::ZdH K x w)),[]) else False else False else False else False else False else False else False else False else False else False else False else False else∃(i:Int) (DT:List ak) (v:List Int) (cB:Int) (aJ:cC),ZbO o::P.d (D.agg [Zn t,OP x])::VS x=ZdE DT v cB aJ/\Zx/\(bx i DT/\((0:Int)<=i/\i<=(100:Int))/\DS aJ)/\ ∀(o:aX) (b:Bool),(b=true->OpW DT v cB o)->bif lr b then ae (ON l K,[]) else∃(v:List Int) (vn:Int) (n:Int),[P.d (OO K x),P.d (OP x),P.d (GU iG r)]=Z9c v vn n/\Zx/\Z9d v vn/\ ∀(w:List Int),w=bq (gK v vn n)->bif Zdv K then bif Zdk x then bif ZdG x K then bif decide (Zdl x<List.length (Oc K)) then bif cD PR (31:TypeId) (D.nth (Oc K) (Zdl x)) then bif Zdy l then bif Zdz l&&aM (0+fH l+List.length [D.agg (Zn t::OP x::GU iG r::OO K x::ZdF o)]) 88 then ae (P.d (D.agg (D.sl 7 (List.take (0+fH l+List.length [D.agg (Zn t::OP x::GU iG r::OO K x::ZdF o)]) (ZdB l++[D.agg (Zn t::OP x::GU iG r::OO K x::ZdF o)]))::ZdH K x w)),[]) else False else False else False else False else False else False else False else False else False else False else False else False else False else False)=(aK [(48,hKn),(13,Vm),(46,JI),(49,UI),(50,qeC)] [(5,ah (aO 29 5) qeE)] 29 [.d (wD l K),.d (wk x)] []) ae:=by kernel_rfl
def BU(i:Int)(l:List ak)(x:cC)(l':List ak)(K':List (List Int)):Prop:=bx (i+1) l'/\ov (i+1) l' K'/\(x.what.tmod 8≠7->(∀g∈l,g.bY=(0,0))-> ∀g∈l',g.bY=(0,0))
def WOk(i:Int)(l:List ak)(K:List (List Int)):Prop:=bx i l/\ov i l K/\0<=i/\i<=100
def LM:br:=λps R ae=> ∃(i:Int) (l:List ak) (K:List (List Int)) (x:cC),ps=[.d (wD l K),.d (wk x)]/\R=[]/\(WOk i l K/\DS x)/\ ∀l' K',BU i l x l' K'->ae (.d (wD l' K'),[])
abbrev hi3(m:List cC)(l:List ak)(K:List (List Int))(i:Int):S:=⟨25,[(0,.d (.sl 6 (m.map wk))),(3,.ref 0 0 0),(4,iD i)],[(0,⟨0,none,bxW l K⟩)]⟩
abbrev oN(m:List cC):S:=⟨25,[(0,.d (.sl 6 (m.map wk))),(3,.ref 0 0 0),(4,iD 0)],[(0,⟨0,none,.box 62 [.d .fP,.sl 1 0 3]⟩),(1,⟨0,none,arV false [[],[],[]]⟩)]⟩
def ZdK(m:List cC):Nat×P:=(0,P.d (D.sl 6 (List.map wk m)))
def ZdJ(m:List cC)(i:Int):D:=D.nth (List.map wk m) (Zg i)
def ZdI(m:List cC):Int:=(↑(List.length (List.map wk m)):Int)
theorem qbw(m:List cC)(l:List ak)(K:List (List Int))(i:Int)(ae:PX×S->Prop):(bif decide (i<ZdI m) then bif decide (i<(16:Int)) then bif decide ((0:Int)<=i/\i<ZdI m) then bif cD PR (41:TypeId) (ZdJ m i) then∃(aH:Int) (au:List ak) (re:List (List Int)) (x:cC),[ON l K,P.d (D.agg [D.int .u8 (D.aj (D.ar (ZdJ m i) 0)),D.int .u8 (D.aj (D.ar (ZdJ m i) 1)),D.int .u8 (D.aj (D.ar (ZdJ m i) 2)),D.int .u8 (D.aj (D.ar (ZdJ m i) 3)),D.int .u8 (D.aj (D.ar (ZdJ m i) 4)),D.bool (D.e9 (D.ar (ZdJ m i) 5))])]=ON au re::VS x/\Zx/\(WOk aH au re/\DS x)/\ ∀(l':List ak) (K':List (List Int)),BU aH au x l' K'->bif Zj i then ae (PX.normal,S.mk 25 (ZdK m::dH::vr i) [OM l' K']) else False else False else False else ae (PX.exit 0,S.mk 25 Hn [OM l K]) else ae (PX.exit 0,S.mk 25 Hn [OM l K]))=(aG [(29,LM)] [] 11 3 (hi3 m l K i)) ae:=by kernel_rfl
def ZdM:List (Nat×En):=[(0,En.mk 0 none (Obj.box (62:TypeId) [P.d D.fP,P.sl 1 0 3])),(1,En.mk 0 none (Obj.arr (31:TypeId) false [Lw,Lw,Lw]))]
def ZdL(m:List cC):D:=D.nth (List.map wk m) 0
theorem qbx(m:List cC)(ae:PX×S->Prop):(bif decide ((0:Int)<ZdI m) then bif decide ((0:Int)<=(0:Int)/\(0:Int)<ZdI m) then bif cD PR (41:TypeId) (ZdL m) then∃(i:Int) (l:List ak) (K:List (List Int)) (x:cC),[P.d (D.agg [D.sl 7 [],D.sl 1 [Lw,Lw,Lw]]),P.d (D.agg [D.int .u8 (D.aj (D.ar (ZdL m) 0)),D.int .u8 (D.aj (D.ar (ZdL m) 1)),D.int .u8 (D.aj (D.ar (ZdL m) 2)),D.int .u8 (D.aj (D.ar (ZdL m) 3)),D.int .u8 (D.aj (D.ar (ZdL m) 4)),D.bool (D.e9 (D.ar (ZdL m) 5))])]=ON l K::VS x/\Zx/\(WOk i l K/\DS x)/\ ∀(l':List ak) (K':List (List Int)),BU i l x l' K'->ae (PX.normal,S.mk 25 [ZdK m,dH,(4,P.d ZR)] [OM l' K']) else False else False else ae (PX.exit 0,S.mk 25 Hn ZdM))=(aG [(29,LM)] [] 11 3 (oN m)) ae:=by kernel_rfl
def zj(m:List cC):Prop:=m.length<=9223372036854775807/\ ∀x∈m,DS x
def BV(m:List cC)(g:List ak):Prop:=bx 16 g/\((∀x∈m,x.what.tmod 8≠7)-> ∀y∈g,y.bY=(0,0))
def qeF:S->K (PX×S):=λs ae=> ∃m,s=oN m/\zj m/\ae (.exit 0,⟨25,[(3,.ref 0 0 0)],[(0,⟨0,none,.box 62 [.d .fP,.sl 1 0 3]⟩),(1,⟨0,none,arV false [[],[],[]]⟩)]⟩)/\ ∀l (K:List (List Int)),BV m l->ae (.exit 0,⟨25,[(3,.ref 0 0 0)],[(0,⟨0,none,bxW l K⟩)]⟩)
theorem qhe(m:List cC)(ae:P×List (Nat×En)->Prop):(∃(bZ:List cC),S.mk 25 (ZdK m::dH::Ng) ZdM=S.mk 25 (ZdK bZ::dH::Ng) ZdM/\zj bZ/\ae (ZQ,Z5l)/\ ∀(l:List ak) (_:List (List Int)),BV bZ l->ae (dq l,[]))=(aK [] [(3,ah (aO 11 3) qeF)] 11 [.d (.sl 6 (m.map wk))] []) ae:=by kernel_rfl
def qeG:br:=λps R ae=> ∃m,ps=[.d (.sl 6 (m.map wk))]/\R=[]/\zj m/\ae (.sl 0 0 0,[(0,⟨0,none,qC false []⟩)])/\ ∀g,BV m g->ae (bT g,[])
section
variable{i:Int}{l:List ak}(h:bx i l)(hi:0<=i/\i<=1000)
theorem bx.right{i:Int}{l:List ak}(h:bx i l):aI l=l:=yH h.Hy h.nd
include h hi
theorem bx.time:0<=Pi.jD l/\Pi.jD l<=i:=⟨(ml _).1,Jm hi.1 _ λg hg=>(h.sm g hg).2.1.1⟩
theorem bx.qhf(r:Int):0<=Bx l r/\Bx l r<=i:=⟨rQ l r,Jl l 0 hi.1 λg hg=>(h.sm g hg).2.1.2⟩
theorem bx.next{r:Int}(h1:1<=r)(h2:r<=16):pO l r=0:=by have:=h.time hi;have:=h.qhf hi r;unfold pO;rw[zam (by omega),zam (by omega)]
theorem bx.s6:cQ (Pi.s6 l)=true:=by
 have:=h;have:=hi;refine uB (r0 λj=>rQ l _) ?_;rw[jt]
 decide
omit h hi in
def dO(l:List ak)(k:Int):ak:=⟨(jD l+1,k),Bx l k+1,Pi.s6 l,(0,0),[qL (jD l+1,k) aB [110,101,119] false]⟩
theorem bx.qeH{k:Int}(h1:1<=k)(h2:k<=16):ct (dO l k)=true:=by
 have h3:=h.time hi;have h4:=h.qhf hi k;have h5:=h.s6 hi;have h6:=K0 l k h1 h2;unfold ct Q6;have hh:(FX (dO l k).s&&decide (1<=(dO l k).n/\(dO l k).n<=1099511627776)&&cQ (dO l k).deps&&(eG (dO l k).deps (dO l k).s.2==(dO l k).n-1))=true:=by have e1:FX (dO l k).s=true:=wW.2 (by show 1<=Pi.jD l+1/\Pi.jD l+1<=1099511627776/\1<=k/\k<=16;omega);have e2:(dO l k).n=Bx l k+1:=rfl;have e3:eG (dO l k).deps (dO l k).s.2=Bx l k:=h6;have e4:cQ (dO l k).deps=true:=h5;rw[e1,e2,e3,e4];simp only[zab,zah,zaR,zc4,zc3];exact⟨by omega,by omega⟩
 rw[hh,zaQ,zam (by simp[dO])];have ho:jR (dO l k).s 0 (qL (Pi.jD l+1,k) aB [110,101,119] false)=some 1:=by
  have hn:dw [110,101,119]=true:=by decide
  simp[jR,qL,eX,js,hn,dO,lj]
 have he:(dO l k).ops=[qL (Pi.jD l+1,k) aB [110,101,119] false]:=rfl;rw[he,zab,zah];refine⟨by simp,?_⟩;unfold iu;rw[ho];rfl
theorem bx.UU(k:Int):((l++[dO l k]).map (·.s)).Nodup:=by have:=hi;rw[zaz,zaU];refine⟨h.nd,by simp,λa ha b hb e=> ?_⟩;obtain⟨x,hx,rfl⟩:=zaA.1 ha;have h1:=(ml l).2 x hx;rw[e,show b=(dO l k).s by simpa using hb] at h1;have:(dO l k).s.1=Pi.jD l+1:=rfl;omega
theorem bx.zk{k:Int}(h1:1<=k)(h2:k<=16):aI (l++[dO l k])=l++[dO l k]:=by
 refine yH (λg hg=> ?_) (h.UU hi k);rcases zaE.1 hg with hg |hg
 ·exact h.Hy g hg
 rw[za0.1 hg];exact h.qeH hi h1 h2
theorem bx.UW(k:Int):vW (l++[dO l k]) k=dO l k::vW l k:=by
 symm
 refine K1 (h.UU hi k) ?_ ?_
 ·rw[zb4];have e:[dO l k].filter (λg=>g.s.2==k)=[dO l k]:=by simp[dO]
  rw[e];exact(List.Perm.cons _ (mU l k)).trans (List.perm_append_comm (l₁:=[dO l k]))
 refine zcl.2 ⟨λy hy=> ?_,mR Dm (λg:ak=>g.s) _⟩;have hy2:=(zbT.1 ((mU l k).mem_iff.1 hy)).1;have:=(ml l).2 y hy2;unfold gtG;rw[<-zaP,oa];have:(dO l k).s.1=Pi.jD l+1:=rfl;omega
end
theorem GV: ∀(l on:List Hd) (x:Hd),x∈on->x∈Hj l on
 | [],_,_,h=>h
 |a::r,on,x,h=>by
  refine GV r (Jk on a) x ?_;unfold Jk;split
  ·exact h
  exact zbr _ h
theorem UX{m:List Hd}{h:Hd}(hn:((m++[h]).map (·.1)).Nodup)(hl: ∀x∈m,lW x.1 h.1=true):h.1∈RD (m++[h]):=by
 have hm:(m.map (·.1)).Nodup:=by rw[zaz,zaU] at hn;exact hn.1
 have e:pM (m++[h])=pM m++[h]:=by
  symm
  refine Dk ?_ ?_
  ·rw[sZ hn];refine List.Perm.append_right _ ?_;have:=b9 (lt:=ltH) (qB m);rw[sZ hm] at this;unfold pM;rw[sZ hm];exact this
  rw[List.pairwise_append];refine⟨mR lX (λa:Hd=>a.1) _,by simp,λa ha b hb=> ?_⟩;rw[za0.1 hb];have ha2:a∈m:=by have:=(b9 (lt:=ltH) (qB m)).mem_iff.1 ha;rwa [sZ hm] at this
  have:=oa.1 (hl a ha2);unfold ltH;rw[<-zaP,oa];omega
 unfold RD;rw[e,zcO,List.mem_reverse];refine zaA.2 ⟨h,?_,rfl⟩;show h∈Hj (h::(pM m).reverse) [];exact GV (pM m).reverse (Jk [] h) h (by simp[Jk])
theorem bx.qhg{i:Int}{l:List ak}(h:bx i l)(hi:0<=i/\i<=1000){k:Int}(h1:1<=k)(h2:k<=16):(dO l k).s∈Jn (l++[dO l k]):=by
 unfold Jn;rw[h.zk hi h1 h2,zaz];refine UX (m:=l.map km) (h:=km (dO l k)) ?_ λx hx=> ?_
 ·have:=h.UU hi k;rw[<-List.map_singleton,<-zaz,List.map_map];exact this
 obtain⟨g,hg,rfl⟩:=zaA.1 hx;have:=(ml l).2 g hg;refine oa.2 (.inl ?_);show g.s.1<Pi.jD l+1;omega
theorem bx.LO{i:Int}{l:List ak}(h:bx i l)(hi:0<=i/\i<=1000){k:Int}(h1:1<=k)(h2:k<=16):q7 (l++[dO l k]) k=((0,0),200):=by unfold q7;rw[h.zk hi h1 h2,h.UW hi k];unfold cd;rw[zao (show(dO l k).bY=(0,0) from rfl)];rfl
theorem bx.LP{i:Int}{l:List ak}(h:bx i l)(hi:0<=i/\i<=1000){k:Int}(h1:1<=k)(h2:k<=16):vv (l++[dO l k]) k=((dO l k).s,0):=by have ho:=h.qhg hi h1 h2;unfold vv;rw[h.zk hi h1 h2,h.UW hi k];unfold eA;rw[zao ⟨rfl,ho⟩];rfl
abbrev UY(z w:Bool)(on:List az)(h:List Hd)(x:az)(e:Int):List (Nat×En):=[(0,⟨0,none,.box 30 [iD x.1,iD x.2]⟩),(1,⟨0,none,.box 35 [iD e]⟩),(2,⟨0,none,.box 51 [.sl 3 0 on.length]⟩),(3,⟨0,none,l0 w on⟩),(4,⟨0,none,.box 51 [.sl 5 0 h.length]⟩),(5,⟨0,none,l0 z (h.map (·.1))⟩),(6,⟨0,none,.box 51 [.sl 7 0 h.length]⟩),(7,⟨0,none,l0 z (h.map (·.2))⟩)]
abbrev qat(l m:List ak)(r:Int)(on:List az)(h:List Hd)(i:Int):S:=⟨69,[(0,bT l),(1,iD r),(4,.ref 0 0 0),(5,.ref 1 0 0),(6,.ref 2 0 0),(7,.ref 4 0 0),(8,.ref 6 0 0),(20,.sl 8 0 m.length),(21,iD (m.length:Int)),(22,iD i)],UY false false on h (0,0) 0++[(8,⟨0,none,qC false m⟩)]⟩
abbrev qhh(l:List ak)(r:Int)(on:List az)(h:List Hd):S:=⟨69,[(0,bT l),(1,iD r),(4,.ref 0 0 0),(5,.ref 1 0 0),(6,.ref 2 0 0),(7,.ref 4 0 0),(8,.ref 6 0 0)],UY false false on h (0,0) 0⟩
def UZ(h:List Hd):Nat×En:=(6,En.mk 0 none (Obj.box (51:TypeId) [P.sl 7 0 (fM h)]))
def U0(h:List Hd):Nat×En:=(4,En.mk 0 none (Obj.box (51:TypeId) [P.sl 5 0 (fM h)]))
def ZdS(on:List az)(h:List Hd):List (Nat×En):=[wT,zH,zG on,LF on,U0 h,(5,T5 h),UZ h,(7,T6 h)]
def U1:Nat×P:=(8,P.ref 6 0 0)
def U2:Nat×P:=(7,P.ref 4 0 0)
def GW:List (Nat×P):=[As,Jv,JQ,U2,U1]
theorem qhi(l m:List ak)(r:Int)(on:List az)(h:List Hd)(i:Int)(ae:PX×S->Prop):(bif Jp i m then bif vY i m then bif tJ i m then bif eM m i then bif Nat.ble (fM h) (List.length (nZ h))&&aM (Zce h m i) 16 then bif Nat.ble (fM h) (List.length (ql h))&&aM (Zcf h m i) 16 then bif Zj i then ae (PX.normal,S.mk 69 [gj l,ZF r,As,Jv,JQ,U2,U1,(20,P.sl 8 0 (fu m)),(21,BK m),(22,P.d (Zn i))] [wT,zH,zG on,LF on,(4,En.mk 0 none (Obj.box (51:TypeId) [P.sl 5 0 (Zce h m i)])),(5,Zch h m i),(6,En.mk 0 none (Obj.box (51:TypeId) [P.sl 7 0 (Zcf h m i)])),(7,Zcg h m i),(8,r9 m)]) else False else False else False else False else False else False else ae (PX.exit 0,S.mk 69 (gj l::ZF r::GW) (ZdS on h)))=(eZ [] [] [] 17 3 (qat l m r on h i)) ae:=by kernel_rfl
abbrev Od:Option (List Nat×List Nat):=some ([4,5,6,7,8],[4,5,6,7,8])
abbrev tA(z w:Bool)(on:List az)(h:List Hd)(x:az)(e:Int):S:=⟨69,[(4,.ref 0 0 0),(5,.ref 1 0 0),(6,.ref 2 0 0),(7,.ref 4 0 0),(8,.ref 6 0 0)],UY z w on h x e⟩
def ZdU(h:List Hd):List (Nat×En):=[U0 h,(5,En.mk 0 none (Obj.arr (30:TypeId) true (nZ h))),UZ h,(7,En.mk 0 none (Obj.arr (30:TypeId) true (ql h)))]
def ZdY(on:List az)(h:List Hd):S:=S.mk 69 GW (wT::zH::zG on::LF on::ZdU h)
def ZdV(on:List az)(h:List Hd):S:=S.mk 69 GW (wT::zH::zG on::Y5 on::ZdU h)
def ZdW(i:Int)(ae:PX×S×PX×S->Prop)(own:List ak)(on:List az)(h:List Hd):Prop:=bif Zj i then ae (PX.normal,TY own i,PX.normal,ZdV on h) else False
def ZdX(on:List az)(own:List ak)(i:Int)(ae:PX×S×PX×S->Prop)(h:List Hd):Prop:= ∃(l:List az) (s:az),P.d (T0 on)::RT own i=uu l::qg s/\Zx/\rT l/\ ∀(b:Bool),VP b l s->bif b then ae (PX.ret,JP own,PX.ret,S.mk 69 GW (Zbx own i::zH::zG on::Y5 on::ZdU h)) else ZdW i ae own on h
def ZdT(h:List Hd)(own:List ak)(i:Int)(l:List Hd)(x:az):Prop:=P.d (D.sl 2 (List.take (fM h) (nZ h)))::P.d (D.sl 2 (List.take (fM h) (ql h)))::RT own i=P.d (D.sl 2 (nZ l))::P.d (D.sl 2 (ql l))::qg x
def ZdZ(h:List Hd)(own:List ak)(i:Int)(on:List az)(ae:PX×S×PX×S->Prop):Prop:= ∃(l:List Hd) (x:az),ZdT h own i l x/\Zx/\Tx l/\ ∀(e:Int) (r:az) (ev:Bool),oq l x=(e,r,ev)->bif e==(0:Int) then bif lr ev then ZdX on own i ae h else bif Zj i then ae (PX.normal,TY own i,PX.normal,ZdY on h) else False else bif Zj i then ae (PX.normal,TY own i,PX.normal,ZdY on h) else False
theorem qi3(own:List ak)(on:List az)(h:List Hd)(i:Int)(ae:PX×S×PX×S->Prop):(bif qk i own then bif ko i own then bif eM own i then bif VQ own i then ae (PX.ret,JP own,PX.exit 2,S.mk 69 GW (ZdS on h)) else ZdZ h own i on ae else False else False else ae (PX.exit 0,JP own,PX.normal,S.mk 69 GW (ZdS on h)))=(lZ [(37,hEr),(38,GK)] [] 17 9 2000000 Od 1 DK 1 (zF own i,(.normal,tA false false on h (0,0) 0))) ae:=by kernel_rfl
theorem qi4(own:List ak)(on:List az)(h:List Hd)(i:Int)(ae:PX×S×PX×S->Prop):(bif qk i own then bif ko i own then bif eM own i then bif VQ own i then ae (PX.ret,JP own,PX.exit 2,ZdY on h) else ZdZ h own i on ae else False else False else ae (PX.exit 0,JP own,PX.normal,ZdY on h))=(lZ [(37,hEr),(38,GK)] [] 17 9 2000000 Od 1 DK 1 (zF own i,(.normal,tA true false on h (0,0) 0))) ae:=by kernel_rfl
theorem qi5(own:List ak)(on:List az)(h:List Hd)(i:Int)(ae:PX×S×PX×S->Prop):(bif qk i own then bif ko i own then bif eM own i then bif VQ own i then ae (PX.ret,JP own,PX.exit 2,ZdV on h) else∃(l:List Hd) (x:az),ZdT h own i l x/\Zx/\Tx l/\ ∀(e:Int) (r:az) (ev:Bool),oq l x=(e,r,ev)->bif e==(0:Int) then bif lr ev then ZdX on own i ae h else ZdW i ae own on h else ZdW i ae own on h else False else False else ae (PX.exit 0,JP own,PX.normal,ZdV on h))=(lZ [(37,hEr),(38,GK)] [] 17 9 2000000 Od 1 DK 1 (zF own i,(.normal,tA true true on h (0,0) 0))) ae:=by kernel_rfl
def qeI:yM:=λy ae=> ∃own on h,(own.length<=1000000/\on.length<=1000000/\h.length<=1000000/\(h.map (·.1)).Nodup)/\y=(zF own 0,(.normal,tA false false on h (0,0) 0))/\
 (∀z w s,cd h on own=some s->ae (.ret,VL own,(.ret,tA z w on h s 0)))/\(∀z w,cd h on own=none->ae (.exit 0,VL own,(.normal,tA z w on h (0,0) 0)))/\(∀z w,cd h on own=none->ae (.ret,VL own,(.exit 2,tA z w on h (0,0) 0)))
abbrev qhj(l own:List ak)(on:List az)(h:List Hd)(r:Int):S:=⟨69,[(0,bT l),(1,iD r),(4,.ref 0 0 0),(5,.ref 1 0 0),(6,.ref 2 0 0),(7,.ref 4 0 0),(8,.ref 6 0 0),(37,bT l),(38,iD r),(39,.fn DK [.ref 1039000 0 0])],UY false false on h (0,0) 0++[(1039000,⟨0,none,.box 22 [bT own]⟩)]⟩
def Ze0(aN:List az)(w:Bool)(qI:List Hd)(z:Bool):List (Nat×En):=[zH,zG aN,(3,En.mk 0 none (Obj.arr (30:TypeId) w (eL aN))),U0 qI,(5,En.mk 0 none (Obj.arr (30:TypeId) z (nZ qI))),UZ qI,(7,En.mk 0 none (Obj.arr (30:TypeId) z (ql qI)))]
theorem qhk(l own:List ak)(on:List az)(h:List Hd)(r:Int)(ae:PX×S->Prop):(∃(rb:List ak) (aN:List az) (qI:List Hd),(mB rb/\rT aN/\Tx qI)/\(ZbH own,PX.normal,S.mk 69 GW (ZdS on h))=(ZbH rb,PX.normal,S.mk 69 GW (ZdS aN qI))/\(∀(z w:Bool) (s:az),cd qI aN rb=some s->ae (PX.ret,S.mk 69 GW (Hk s::Ze0 aN w qI z)))/\(∀(z w:Bool),cd qI aN rb=none->ae (PX.normal,S.mk 69 GW (wT::Ze0 aN w qI z)))/\ ∀(z w:Bool),cd qI aN rb=none->ae (PX.exit 2,S.mk 69 GW (wT::Ze0 aN w qI z)))=(wK [] [] (λfi yt=>if Nat.beq fi DK&&Nat.beq yt 1 then [(1,eb (aO DK 1) qeI)] else []) 17 9 2000000 Od (qhj l own on h r)) ae:=by kernel_rfl
def qeJ:S->K (PX×S):=λs ae=> ∃l own on h r,s=qhj l own on h r/\(own.length<=1000000/\on.length<=1000000/\h.length<=1000000/\(h.map (·.1)).Nodup)/\(∀z w s,cd h on own=some s->ae (.ret,tA z w on h s 0))/\(∀z w,cd h on own=none->ae (.normal,tA z w on h (0,0) 0))/\(∀z w,cd h on own=none->ae (.exit 2,tA z w on h (0,0) 0))
def qeK:S->K (PX×S):=λs ae=> ∃l m r on,s=qat l m r on [] 0/\m.length<=1000000/\ ∀h,h=m.map km->ae (.exit 0,qhh l r on h)
def Ze2(mZ:List ak)(cB:Int)(on:List az)(h:List Hd)(o:List ak):S:=S.mk 69 [gj mZ,ZF cB,As,Jv,JQ,U2,U1,(37,dq mZ),(38,P.d (Zt cB)),(39,P.fn (101:FuncId) [P.ref 1039000 0 0])] [wT,zH,zG on,LF on,U0 h,(5,T5 h),UZ h,(7,T6 h),(1039000,ZbK o)]
def Ze1(l:List ak)(r:Int)(m:List ak)(o:List az):S:=S.mk 69 [gj l,ZF r,As,Jv,JQ,U2,U1,(20,P.sl 8 0 (fu m)),(21,BK m),(22,P.d Z7)] [wT,zH,zG o,LF o,(4,En.mk 0 none (Obj.box (51:TypeId) [P.sl 5 0 0])),(5,wc),(6,En.mk 0 none (Obj.box (51:TypeId) [P.sl 7 0 0])),(7,wc),(8,r9 m)]
theorem qeL(l:List ak)(r:Int)(ae:P×List (Nat×En)->Prop):(∃(au:List ak),Ec l au/\Zx/\mn au/\ ∀(o:List az),o=Jn au-> ∃(iG:List ak),Ec l iG/\Zx/\mn iG/\ ∀(m:List ak),m=aI iG-> ∃(mZ:List ak) (bZ:List ak) (cB:Int) (on:List az),Ze1 l r m o=Ze1 mZ cB bZ on/\mB bZ/\ ∀(h:List Hd),h=List.map km bZ-> ∃(l:List ak) (r:Int),LG mZ cB=LG l r/\Zx/\mn l/\ ∀(o:List ak),o=vW (aI l) r-> ∃(l:List ak) (own:List ak) (aN:List az) (qI:List Hd) (r:Int),Ze2 mZ cB on h o=Ze2 l r aN qI own/\(mB own/\rT aN/\Tx qI)/\(∀(_ _:Bool) (s:az),cd qI aN own=some s->ZbM ae s)/\(∀(_ _:Bool),cd qI aN own=none->ZbN ae)/\ ∀(_ _:Bool),cd qI aN own=none->ZbN ae)=(rR [(30,vX),(36,TC)] [(35,JO)] [(3,ah (aO 17 3) qeK),(500009,qeJ)] 17 [bT l,iD r] []) ae:=by kernel_rfl
section
variable{X:XF}{w0:World}(hX:du PR w0 X.cf)
include hX
theorem qi6:LN w0 17 3 (ah (aO 17 3) qeK):=LN.idx hX (H:=[]) (HN:=[]) (hk:=[]) D5 (by kernel_rfl) (by kernel_rfl) (by kernel_rfl) .nil .nil .nil
 (A:=List ak×List ak×Int×List az) (B:=List Hd) (λa h i=>qat a.1 a.2.1 a.2.2.1 a.2.2.2 h i) (λa=>a.2.1.length) (λa i h=>a.2.1.length<=1000000/\h=(a.2.1.take i).map km)
 (λa x=>x=(.exit 0,qhh a.1 a.2.2.1 a.2.2.2 (a.2.1.map km)))
 (by
  rintro⟨l,m,r,on⟩ h i ae h0 bQ bj ⟨hm,hh⟩ hn ho
  try dsimp only at*
  (rw[<-qhi];delta ql T6 fM UZ nZ T5 U0 eL oI LF eu zG Z7 qy N5 zH zy wT ZdS U1 U2 sc JQ jE Jv cb As GW cW r9 Zg ij Vu Zcg qi qj vw Zch Zn fu ot BK Zt ZF dq gj Za Z9 Zj Zcf Zce eM fH tJ vY Jp)
  have e1:D.nth (m.map aV) i.toNat=aV m[i.toNat]:=aA _ _ _ bj;have hl:h.length<=1000000:=by rw[hh,zaa,zay];omega
  have lM:(m.take (i.toNat+1)).map km=h++[km m[i.toNat]]:=by rw[zag bj,zaz,hh];rfl
  rw[e1];generalize m[i.toNat]=g at*
  have p1:List.take h.length ((h.map λx=>x.1).map bh)++[bh g.s]=((h++[km g]).map λx=>x.1).map bh:=by rw[zai (by simp),zaz,zaz];rfl
  have p2:List.take h.length ((h.map λx=>x.2).map bh)++[bh g.bY]=((h++[km g]).map λx=>x.2).map bh:=by rw[zai (by simp),zaz,zaz];rfl
  have hy:=hn (h++[km g]) ⟨hm,lM.symm⟩;simp only[qat,UY,l0,List.cons_append,zbg] at hy;rw[<-p1,<-p2,zan] at hy;simp only[zaa];refine bM bQ (ao ⟨h0,bQ⟩ (ao bj (aq (gi _) (aq ?_ (aq ?_ (ao (by omega) ?_))))))
  ·rw[zab];exact⟨by simp,cq hl (by omega)⟩
  ·rw[zab];exact⟨by simp,cq hl (by omega)⟩
  exact hy)
 (by
  rintro⟨l,m,r,on⟩ h i ae hi ⟨hm,hh⟩ ho
  try dsimp only at*
  (rw[<-qhi];delta ql T6 fM UZ nZ T5 U0 eL oI LF eu zG Z7 qy N5 zH zy wT ZdS U1 U2 sc JQ jE Jv cb As GW cW r9 Zg ij Vu Zcg qi qj vw Zch Zn fu ot BK Zt ZF dq gj Za Z9 Zj Zcf Zce eM fH tJ vY Jp)
  refine mq (by omega) (ho _ (λh=>by cases h) ?_);rw[hh,zak])
 (by rintro s ae ⟨l,m,r,on,rfl,hm,hp⟩;refine⟨(l,m,r,on),[],rfl,⟨hm,rfl⟩,?_⟩;rintro x rfl;exact hp _ rfl)
theorem qi7:LY w0 17 9 1 DK 1 (eb (aO DK 1) qeI):=LY.par hX (H:=[(37,hEr),(38,GK)]) (HN:=[]) (base:=2000000) (keep:=Od) D5 (.cons qiA (.cons qbl .nil)) .nil (by kernel_rfl) (by kernel_rfl) (by kernel_rfl)
 (A:=List ak×List az×List Hd) (B:=(Bool×Bool)×Int)
 (λa b=>(zF a.1 b.2,(.normal,tA b.1.1 b.1.2 a.2.1 a.2.2 (0,0) 0)))
 (λa b=>(a.1.length<=1000000/\a.2.1.length<=1000000/\a.2.2.length<=1000000/\(a.2.2.map (·.1)).Nodup)/\(b.1.2=true->b.1.1=true)/\0<=b.2/\b.2.toNat<=a.1.length/\cd a.2.2 a.2.1 a.1=cd a.2.2 a.2.1 (a.1.drop b.2.toNat))
 (λa b=>((a.1.length:Int)-b.2).toNat)
 (λa x=>(∃z w s,cd a.2.2 a.2.1 a.1=some s/\x=(.ret,VL a.1,(.ret,tA z w a.2.1 a.2.2 s 0)))\/(∃z w,cd a.2.2 a.2.1 a.1=none/\x=(.exit 0,VL a.1,(.normal,tA z w a.2.1 a.2.2 (0,0) 0)))\/(∃z w,cd a.2.2 a.2.1 a.1=none/\x=(.ret,VL a.1,(.exit 2,tA z w a.2.1 a.2.2 (0,0) 0))))
 (by
  rintro⟨own,on,h⟩ ⟨⟨z,w⟩,i⟩ ⟨hm,hzw,h0,hi,hu⟩
  try dsimp only at*
  have key: ∀(bj:i.toNat<own.length),cd h on own=if own[i.toNat].bY=(0,0) then none else if Gj h own[i.toNat].s=true/\own[i.toNat].s∈on then some own[i.toNat].s else cd h on (own.drop (i+1).toNat):=λbj=>by rw[hu,za3 bj,show(i+1).toNat=i.toNat+1 by omega];rfl
  have Iv: ¬i.toNat<own.length->cd h on own=none:=λbj=>by rw[hu,List.drop_of_length_le (by omega)];rfl
  have tk:List.take on.length (on.map bh)=on.map bh:=zai (by simp);have tk1:List.take h.length ((h.map λx=>x.1).map bh)=(h.map λx=>x.1).map bh:=zai (by simp);have tk2:List.take h.length ((h.map λx=>x.2).map bh)=(h.map λx=>x.2).map bh:=zai (by simp);rcases z with _ |_<;>rcases w with _ |_
  ·(rw[<-qi3];delta ql fM UZ nZ U0 ZdU eL oI LF eu zG Z7 qy N5 zH zy wT U1 U2 sc JQ jE Jv cb As GW ZdY cW dq VN Zn ZL fH Ds VO TY Za Z9 Zj Y5 ZdV ZdW Zg ij qi qj Zbx JP VP rT Zx ll ln tH qg uu vw RT T0 ZdX lr qm Tx ZdT ZdZ T6 T5 ZdS VQ eM ko qk)
   rw[zaa];refine cE (λhp=> ?_) λhp=> .inr (.inl ⟨false,false,Iv (by omega),rfl⟩);have bj:i.toNat<own.length:=by omega
   have e1:D.nth (own.map aV) i.toNat=aV own[i.toNat]:=aA _ _ _ bj;have key:=key bj;rw[e1,tk,tk1,tk2];generalize own[i.toNat]=g at*
   have u1:D.aj (D.ar (aV g) 4)=g.bY.1:=rfl;have u2:D.aj (D.ar (aV g) 5)=g.bY.2:=rfl;rw[u1,u2];refine ao ⟨h0,hp⟩ (aq (gi _) (ay (λhb=> ?_) λhb=>⟨h,g.s,rfl,rfl,⟨hm.2.2.1,hm.2.2.2⟩,λe r ev hr=> ?_⟩))
   ·have hz:g.bY=(0,0):=by simp only[zbv,zab,zaR] at hb;exact zdf hb.1 hb.2
    exact .inr (.inr ⟨false,false,by rw[key,zao hz],rfl⟩)
   have hz: ¬g.bY=(0,0):=λhz=>by rw[hz] at hb;simp at hb
   have U3:Gj h g.s=(e==0&& !ev):=by unfold Gj;rw[hr]
   rw[zam hz,U3] at key;refine By (λhe=>ay (λhv=>⟨on,g.s,rfl,rfl,hm.2.1,λb cr=> ?_⟩) λhv=>ao (by omega) ?_) λhe=>ao (by omega) ?_
   ·subst cr;have ho:(e==0&& !ev)=true:=by rw[hv];simp[he]
    refine cE (λlE=> .inl ⟨true,true,g.s,by rw[key,zao ⟨ho,lE⟩],rfl⟩) λlE=>ao (by omega) ?_;exact⟨((own.length:Int)-(i+1)).toNat,by omega,((true,true),i+1),by simp only[zF,zaa],⟨hm,λ_=>rfl,by show 0<=i+1;omega,by show(i+1).toNat<=_;omega,by show cd h on own=cd h on (own.drop (i+1).toNat);rw[key,zam (λhh=>lE hh.2)]⟩,rfl⟩
   ·exact⟨((own.length:Int)-(i+1)).toNat,by omega,((true,false),i+1),by simp only[zF,zaa],⟨hm,λ_=>rfl,by show 0<=i+1;omega,by show(i+1).toNat<=_;omega,by show cd h on own=cd h on (own.drop (i+1).toNat);rw[key,zam (λhh=>by rw[hv,zcL] at hh;cases hh.1)]⟩,rfl⟩
   exact⟨((own.length:Int)-(i+1)).toNat,by omega,((true,false),i+1),by simp only[zF,zaa],⟨hm,λ_=>rfl,by show 0<=i+1;omega,by show(i+1).toNat<=_;omega,by show cd h on own=cd h on (own.drop (i+1).toNat);rw[key,zam (λhh=>he (by have:=hh.1;rw[zab] at this;simpa using this.1))]⟩,rfl⟩
  ·exact absurd (hzw rfl) (by decide)
  ·(rw[<-qi4];delta ql fM UZ nZ U0 ZdU eL oI LF eu zG Z7 qy N5 zH zy wT U1 U2 sc JQ jE Jv cb As GW ZdY cW dq VN Zn ZL fH Ds VO TY Za Z9 Zj Y5 ZdV ZdW Zg ij qi qj Zbx JP VP rT Zx ll ln tH qg uu vw RT T0 ZdX lr qm Tx ZdT ZdZ VQ eM ko qk)
   rw[zaa];refine cE (λhp=> ?_) λhp=> .inr (.inl ⟨true,false,Iv (by omega),rfl⟩);have bj:i.toNat<own.length:=by omega
   have e1:D.nth (own.map aV) i.toNat=aV own[i.toNat]:=aA _ _ _ bj;have key:=key bj;rw[e1,tk,tk1,tk2];generalize own[i.toNat]=g at*
   have u1:D.aj (D.ar (aV g) 4)=g.bY.1:=rfl;have u2:D.aj (D.ar (aV g) 5)=g.bY.2:=rfl;rw[u1,u2];refine ao ⟨h0,hp⟩ (aq (gi _) (ay (λhb=> ?_) λhb=>⟨h,g.s,rfl,rfl,⟨hm.2.2.1,hm.2.2.2⟩,λe r ev hr=> ?_⟩))
   ·have hz:g.bY=(0,0):=by simp only[zbv,zab,zaR] at hb;exact zdf hb.1 hb.2
    exact .inr (.inr ⟨true,false,by rw[key,zao hz],rfl⟩)
   have hz: ¬g.bY=(0,0):=λhz=>by rw[hz] at hb;simp at hb
   have U3:Gj h g.s=(e==0&& !ev):=by unfold Gj;rw[hr]
   rw[zam hz,U3] at key;refine By (λhe=>ay (λhv=>⟨on,g.s,rfl,rfl,hm.2.1,λb cr=> ?_⟩) λhv=>ao (by omega) ?_) λhe=>ao (by omega) ?_
   ·subst cr;have ho:(e==0&& !ev)=true:=by rw[hv];simp[he]
    refine cE (λlE=> .inl ⟨true,true,g.s,by rw[key,zao ⟨ho,lE⟩],rfl⟩) λlE=>ao (by omega) ?_;exact⟨((own.length:Int)-(i+1)).toNat,by omega,((true,true),i+1),by simp only[zF,zaa],⟨hm,λ_=>rfl,by show 0<=i+1;omega,by show(i+1).toNat<=_;omega,by show cd h on own=cd h on (own.drop (i+1).toNat);rw[key,zam (λhh=>lE hh.2)]⟩,rfl⟩
   ·exact⟨((own.length:Int)-(i+1)).toNat,by omega,((true,false),i+1),by simp only[zF,zaa],⟨hm,λ_=>rfl,by show 0<=i+1;omega,by show(i+1).toNat<=_;omega,by show cd h on own=cd h on (own.drop (i+1).toNat);rw[key,zam (λhh=>by rw[hv,zcL] at hh;cases hh.1)]⟩,rfl⟩
   exact⟨((own.length:Int)-(i+1)).toNat,by omega,((true,false),i+1),by simp only[zF,zaa],⟨hm,λ_=>rfl,by show 0<=i+1;omega,by show(i+1).toNat<=_;omega,by show cd h on own=cd h on (own.drop (i+1).toNat);rw[key,zam (λhh=>he (by have:=hh.1;rw[zab] at this;simpa using this.1))]⟩,rfl⟩
  ·(rw[<-qi5];delta ql fM UZ nZ U0 ZdU eL Y5 eu zG Z7 qy N5 zH zy wT U1 U2 sc JQ jE Jv cb As GW ZdV cW dq VN Zn ZL fH Ds VO TY Za Z9 Zj ZdW Zg ij qi qj Zbx JP VP rT Zx ll ln tH qg uu vw RT T0 ZdX lr qm Tx ZdT VQ eM ko qk)
   rw[zaa];refine cE (λhp=> ?_) λhp=> .inr (.inl ⟨true,true,Iv (by omega),rfl⟩);have bj:i.toNat<own.length:=by omega
   have e1:D.nth (own.map aV) i.toNat=aV own[i.toNat]:=aA _ _ _ bj;have key:=key bj;rw[e1,tk,tk1,tk2];generalize own[i.toNat]=g at*
   have u1:D.aj (D.ar (aV g) 4)=g.bY.1:=rfl;have u2:D.aj (D.ar (aV g) 5)=g.bY.2:=rfl;rw[u1,u2];refine ao ⟨h0,hp⟩ (aq (gi _) (ay (λhb=> ?_) λhb=>⟨h,g.s,rfl,rfl,⟨hm.2.2.1,hm.2.2.2⟩,λe r ev hr=> ?_⟩))
   ·have hz:g.bY=(0,0):=by simp only[zbv,zab,zaR] at hb;exact zdf hb.1 hb.2
    exact .inr (.inr ⟨true,true,by rw[key,zao hz],rfl⟩)
   have hz: ¬g.bY=(0,0):=λhz=>by rw[hz] at hb;simp at hb
   have U3:Gj h g.s=(e==0&& !ev):=by unfold Gj;rw[hr]
   rw[zam hz,U3] at key;refine By (λhe=>ay (λhv=>⟨on,g.s,rfl,rfl,hm.2.1,λb cr=> ?_⟩) λhv=>ao (by omega) ?_) λhe=>ao (by omega) ?_
   ·subst cr;have ho:(e==0&& !ev)=true:=by rw[hv];simp[he]
    refine cE (λlE=> .inl ⟨true,true,g.s,by rw[key,zao ⟨ho,lE⟩],rfl⟩) λlE=>ao (by omega) ?_;exact⟨((own.length:Int)-(i+1)).toNat,by omega,((true,true),i+1),by simp only[zF,zaa],⟨hm,λ_=>rfl,by show 0<=i+1;omega,by show(i+1).toNat<=_;omega,by show cd h on own=cd h on (own.drop (i+1).toNat);rw[key,zam (λhh=>lE hh.2)]⟩,rfl⟩
   ·exact⟨((own.length:Int)-(i+1)).toNat,by omega,((true,true),i+1),by simp only[zF,zaa],⟨hm,λ_=>rfl,by show 0<=i+1;omega,by show(i+1).toNat<=_;omega,by show cd h on own=cd h on (own.drop (i+1).toNat);rw[key,zam (λhh=>by rw[hv,zcL] at hh;cases hh.1)]⟩,rfl⟩
   exact⟨((own.length:Int)-(i+1)).toNat,by omega,((true,true),i+1),by simp only[zF,zaa],⟨hm,λ_=>rfl,by show 0<=i+1;omega,by show(i+1).toNat<=_;omega,by show cd h on own=cd h on (own.drop (i+1).toNat);rw[key,zam (λhh=>he (by have:=hh.1;rw[zab] at this;simpa using this.1))]⟩,rfl⟩)
 (by
  rintro y ae ⟨own,on,h,h1,rfl,h2,h3,h4⟩;refine⟨(own,on,h),((false,false),0),rfl,⟨h1,by decide,zbA _,by simp,rfl⟩,?_⟩;rintro x (⟨z,w,s,h,rfl⟩| ⟨z,w,h,rfl⟩| ⟨z,w,h,rfl⟩)
  ·exact h2 z w s h
  ·exact h3 z w h
  exact h4 z w h)
theorem qi8:FN w0 17 9 qeJ:=FN.mk hX (H:=[]) (HN:=[]) D5 .nil .nil (base:=2000000) (keep:=Od) (by kernel_rfl) (hk:=λfi yt=>if Nat.beq fi DK&&Nat.beq yt 1 then [(1,eb (aO DK 1) qeI)] else [])
 (by
  intro fi yt h zx hl;split at hl
  next hb=>
   rw[zab] at hb;have e1:=zaf hb.1;have e2:=zaf hb.2;subst e1 e2;unfold lk at hl;split at hl
   next he=>have e3:=zaf he;subst e3;cases hl;exact⟨by kernel_rfl,qi7 hX⟩
   cases hl
  cases hl)
 (by
  rintro s ae ⟨l,own,on,h,r,rfl,hm,h1,h2,h3⟩
  (rw[<-qhk];delta Z7 qy zy wT ql fM UZ nZ U0 eL eu zG N5 zH Ze0 ll ln Ao Hk T6 T5 oI LF ZdS U1 U2 sc JQ jE Jv cb As GW cW dq VN rI fH Ds VO ZbH qm Tx rT fu mB)
  exact⟨own,on,h,hm,rfl,h1,h2,h3⟩)
def vG:br:=λps R ae=> ∃l r,ps=[bT l,iD r]/\R=[]/\mn l/\ ∀a,a=q7 l r->ae (stO a,[])
theorem qeM(hV:ND w0 35 JO):ND w0 17 vG:=ND.mk hX (H:=[(30,vX),(36,TC)]) (HN:=[(35,JO)]) (hk:=[(3,ah (aO 17 3) qeK),(500009,qeJ)]) D5 (by kernel_rfl) (by kernel_rfl) (.cons K6 (.cons qbc .nil)) (.cons hV .nil) (.loop (by decide) (qi6 hX).T (.range (qi8 hX) .nil)) (by
 intro ps R ae hh;obtain⟨l,r,rfl,rfl,hs,hp⟩:=hh
 (rw[<-qeL];delta Z7 ZbN qy ll ln tH ZbM fM qm Tx eu rT cW dq ZbK ql T6 UZ nZ T5 U0 eL oI LF zG N5 zH zy wT Zt U1 U2 sc JQ jE Jv cb As ZF gj Ze2 Zv LG fu mB r9 wc ot BK Ze1 Zx Ec)
 have hl:=hs.1;have h1:=wV l;have h2:=dJ l;have h3:(vW (aI l) r).length<=(aI l).length:=by rw[(mU _ _).length_eq];exact za5 _ _
 have ky:=Dl l;refine⟨l,rfl,rfl,hs,λo ho=>⟨l,rfl,rfl,hs,λm hm=>⟨l,m,r,o,rfl,by rw[hm];omega,λh hh=>⟨l,r,rfl,rfl,hs,λow how=>⟨l,ow,o,h,r,rfl,⟨by rw[how];omega,by rw[ho];omega,by rw[hh,zaa,hm];omega,by rw[hh,hm];exact ky⟩,λ_ _ s hr=> ?_,λ_ _ hr=> ?_,λ_ _ hr=> ?_⟩⟩⟩⟩⟩
 ·have e:h=rN l:=by rw[hh,hm];rfl
  exact hp (s,0) (by unfold q7;rw[<-ho,<-how,<-e,hr];rfl)
 ·have e:h=rN l:=by rw[hh,hm];rfl
  exact hp ((0,0),200) (by unfold q7;rw[<-ho,<-how,<-e,hr];rfl)
 have e:h=rN l:=by rw[hh,hm];rfl
 exact hp ((0,0),200) (by unfold q7;rw[<-ho,<-how,<-e,hr];rfl))
end
end Pi
namespace Pi
open Go Go.Proofs Go.RowKit Go.Proofs.YtngoddkencoalaaGreatDoor
set_option maxRecDepth 100000
abbrev rf:List (String×DataW Unit):=[("unicode/utf8.acceptRanges",Rows.laid_unicode_utf8_acceptRanges),("unicode/utf8.first",Rows.laid_unicode_utf8_first)]
theorem GX(w:World)(h:laidMetH Tryz.prog rf w):laidMet Tryz.prog rf w:=by
 unfold laidMetH at h;have e:(rf.filter λx=>x.2.handleName?.isSome)=[]:=by kernel_rfl
 rw[e] at h;exact h
theorem qau(w:World)(h:laidMet Tryz.prog rf w):laidMetH Tryz.prog rf w:=by
 unfold laidMetH;have e:(rf.filter λx=>x.2.handleName?.isSome)=[]:=by kernel_rfl
 rw[e];exact h
theorem qhl:(Rows.laid_unicode_utf8_first:DataW Unit)=Lib.firstData:=by kernel_rfl
theorem qhm:(Rows.laid_unicode_utf8_acceptRanges:DataW Unit)=Lib.acceptData:=by kernel_rfl
def qi9:Go.Shelf.Ren:=⟨λn=>n,λ|5=>5 |119=>242 |138=>244 |139=>245 |n=>n,λ|3=>0 |4=>1 |n=>n⟩
theorem qhn{W:World}(h:laidMet Tryz.prog rf W):Lib.Utf8Tabs 0 1 W:=
 utf8Tabs_of_readsT (ρ:=qi9) ⟨by kernel_rfl,by kernel_rfl,by kernel_rfl,by kernel_rfl⟩ ⟨by kernel_rfl,by kernel_rfl,by kernel_rfl,by kernel_rfl,by kernel_rfl,by kernel_rfl,by kernel_rfl⟩
  (by rw[<-qhl];exact Lib.laidMet.reads h (.tail _ (.head _)))
  (by rw[<-qhm];exact Lib.laidMet.reads h (.head _))
theorem qeN{W:World}(h0:laidMetH Tryz.prog rf W)(hs:W.ShapedOpen Tryz.prog):StW W:=by have h:=GX W h0;refine⟨?_,qhn h⟩;exact cell_of_shapedOpen_int (zero:= #[.int .i64 0]) (t:=3) hs (zbI (by kernel_rfl)) (by kernel_rfl) rfl (by kernel_rfl) (by kernel_rfl) Tryz.underlying3
noncomputable def wL(os:Os):World:=World.laidAll Tryz.prog os rf
theorem qeO(os:Os)(args:Array Value):laidMet Tryz.prog rf ((wL os).forCall (λ_ _=>0) ⟨#[],args,[]⟩).memory:=
 laidMet_laidAll _ (by kernel_rfl) (by kernel_rfl)
open Classical in
noncomputable def tB:TF:=λps R=>if h: ∃a:List ak×Int,ps=[bT a.1,iD a.2]/\R=[]/\mn a.1 then some (stO (vv h.choose.1 h.choose.2),[]) else none
open Classical in
noncomputable def tC:TF:=λps R=>if h: ∃a:List ak×Int,ps=[bT a.1,iD a.2]/\R=[]/\mn a.1 then some (stO (q7 h.choose.1 h.choose.2),[]) else none
theorem JZ{ps:List P}{R:List (Nat×En)}{y:P×List (Nat×En)}(h:tB ps R=some y):vF ps R (λz=>z=y):=by
 unfold tB at h;split at h
 next e=>obtain⟨h1,h2,h3⟩:=e.choose_spec;exact⟨e.choose.1,e.choose.2,h1,h2,h3,λa ha=>by rw[ha];exact zb2 h⟩
 cases h
theorem J0{ps:List P}{R:List (Nat×En)}{y:P×List (Nat×En)}(h:tC ps R=some y):vG ps R (λz=>z=y):=by
 unfold tC at h;split at h
 next e=>obtain⟨h1,h2,h3⟩:=e.choose_spec;exact⟨e.choose.1,e.choose.2,h1,h2,h3,λa ha=>by rw[ha];exact zb2 h⟩
 cases h
theorem LQ{l m:List ak}{r s:Int}(h:[bT l,iD r]=[bT m,iD s]):l=m/\r=s:=by
 have c:l.map aV=m.map aV/\r=s:=by simpa using h
 exact⟨y7 qbb c.1,c.2⟩
theorem J1{ps:List P}{R:List (Nat×En)}{ae:P×List (Nat×En)->Prop}(h:vF ps R ae): ∃x,tB ps R=some x/\ae x:=by
 obtain⟨l,r,h1,h2,h3,hp⟩:=h;have e: ∃a:List ak×Int,ps=[bT a.1,iD a.2]/\R=[]/\mn a.1:=⟨(l,r),h1,h2,h3⟩
 obtain⟨c1,_,_⟩:=e.choose_spec;obtain⟨e1,e2⟩:=LQ (h1.symm.trans c1);refine⟨_,?_,hp _ rfl⟩;unfold tB;rw[dif_pos e,<-e1,<-e2]
theorem J2{ps:List P}{R:List (Nat×En)}{ae:P×List (Nat×En)->Prop}(h:vG ps R ae): ∃x,tC ps R=some x/\ae x:=by
 obtain⟨l,r,h1,h2,h3,hp⟩:=h;have e: ∃a:List ak×Int,ps=[bT a.1,iD a.2]/\R=[]/\mn a.1:=⟨(l,r),h1,h2,h3⟩
 obtain⟨c1,_,_⟩:=e.choose_spec;obtain⟨e1,e2⟩:=LQ (h1.symm.trans c1);refine⟨_,?_,hp _ rfl⟩;unfold tC;rw[dif_pos e,<-e1,<-e2]
structure XT(X:XF):Prop where
 bY: ∀ps R,X.cf 19 ps R=tB ps R
 qja: ∀ps R,X.cf 17 ps R=tC ps R
theorem LR{X:XF}(hX:XT X):FD X 19 vF:=Om.sP Tryz.func19 (by kernel_rfl) λps R ae h=>by obtain⟨x,h1,h2⟩:=J1 h;exact⟨x,by rw[<-h1];exact hX.bY ps R,h2⟩
theorem LS{X:XF}(hX:XT X):FD X 17 vG:=Om.sP Tryz.func17 (by kernel_rfl) λps R ae h=>by obtain⟨x,h1,h2⟩:=J2 h;exact⟨x,by rw[<-h1];exact hX.qja ps R,h2⟩
noncomputable def LU:XF:=⟨xOf ((19,tB)::(17,tC)::xL),λf hf ps R=>by
 show(if Nat.beq 19 f then tB ps R else if Nat.beq 17 f then tC ps R else xB f ps R)=_;split
 next he=>
  have:=zaf he;subst this;have h0:gS 19 xsB=false:=by kernel_rfl
  rw[h0] at hf;cases hf
 split
 next he=>
  have:=zaf he;subst this;have h0:gS 17 xsB=false:=by kernel_rfl
  rw[h0] at hf;cases hf
 rfl⟩
theorem qav:XT LU:=⟨λ_ _=>rfl,λ_ _=>rfl⟩
theorem U4{w1:World}(hw1:StW w1):du Tryz.prog {w1 with drawn:=0} LU.cf:=by
 have h0:=qfp hw1;have hU:MK Tryz.prog {w1 with drawn:=0} 19 tB:=MK.ofN (qeb (X:=KJ) h0 (qbn (X:=KJ) h0)) λps R y h=>JZ h;have hR:MK Tryz.prog {w1 with drawn:=0} 17 tC:=MK.ofN (qeM (X:=KJ) h0 (qbn (X:=KJ) h0)) λps R y h=>J0 h;intro f ps R p R1 h';have h':(if Nat.beq 19 f then tB ps R else if Nat.beq 17 f then tC ps R else xB f ps R)=some (p,R1):=h';split at h'
 next hf=>have hf:=zaf hf;subst hf;exact hU rfl ps R p R1 h'
 split at h'
 next hf=>have hf:=zaf hf;subst hf;exact hR rfl ps R p R1 h'
 exact h0 f ps R p R1 h'
end Pi
namespace Pi
open Go Go.Proofs
set_option maxRecDepth 100000
set_option maxHeartbeats 0
theorem tD{a b:Int}(h:0<=a)(hb:0<b):0<=a.tmod b/\a.tmod b<b:=⟨Int.tmod_nonneg b h,Int.tmod_lt_of_pos a hb⟩
theorem bx.smS{i:Int}{l:List ak}(h:bx i l)(hi:i<=1000):SmS l:=by
 have h1:=h.len;have h2:=h.df;refine⟨⟨by omega,λg hg=>⟨λo ho=> ?_,?_,?_⟩⟩,?_⟩
 ·have h3:=(h.sm g hg).2.2.2 o ho;have h4:=tc (h.Hy g hg) o ho;exact⟨by omega,by omega,by omega⟩
 ·have h3:=(h.sm g hg).2.2.1;omega
 ·have:=n9 (DN (h.Hy g hg)).2.2.1;omega
 show Pi.df l<=1000;omega
theorem qho{q:Int}(h:q=0\/q=1\/q=2):((0<=IntKind.wrap IntKind.u8 (q+1)/\IntKind.wrap IntKind.u8 (q+1)<=((3:Nat):Int))/\(0<=q/\q<=((IntKind.wrap IntKind.u8 (q+1)).toNat:Int)))/\dw (List.drop q.toNat (List.take (IntKind.wrap IntKind.u8 (q+1)).toNat [97,98,99]))=true:=by rcases h with rfl |rfl |rfl<;>exact⟨by decide,by kernel_rfl⟩
theorem qhp{k d:Int}(hk:0<=k/\k<5)(hd:0<=d/\d<2):mT (List.drop k.toNat (List.take (k+1+d).toNat [117,118,119,120,121,122]))=true/\(List.drop k.toNat (List.take (k+1+d).toNat ([117,118,119,120,121,122]:List UInt8))).length<=2:=by
 obtain hk:k=0\/k=1\/k=2\/k=3\/k=4:=by omega
 obtain hd:d=0\/d=1:=by omega
 rcases hk with rfl |rfl |rfl |rfl |rfl<;>rcases hd with rfl |rfl<;>exact⟨by kernel_rfl,by decide⟩
theorem qaw{i:Int}{l:List ak}(h:bx i l)(hi:i<=1000)(x:av):mx (fy l x):=by
 have h1:=h.len;have h2:=h.df;have h3:=qp x l;have hr: ∀r∈fy l x,r.2.2.length<=2/\r.2.1.2.2=0:=λr hr=>by obtain⟨g,hg,o,ho,hk,rfl⟩:=GP hr;obtain⟨m,hm⟩:=op1 h hg ho;have:=LI hm hk;exact⟨((h.sm g hg).2.2.2 o ho).1,by rw[this]⟩
 have key: ∀L:List bO,(∀r∈L,r.2.2.length<=2)->Hz L<=2*L.length:=λL=>by
  induction L with
  |nil=>intro _;simp[Hz]
  |cons r L ih=>
   intro hL;have h4:=ih λr hr=>hL r (.tail _ hr);have h5:=hL r (.head _);have h6:=zi r.2.2;have h7:Hz (r::L)=(pV r.2.2).length+Hz L:=by simp[Hz]
   rw[h7,zap];omega
 refine⟨by omega,?_,λr h=> ?_⟩
 ·have:=key _ λr h=>(hr r h).1;omega
 have:=hr r h;rw[this.2];exact⟨by omega,by omega,by omega⟩
theorem jV{α:Type}(f:α->D)(o:List α):List.take o.length (o.map f)=o.map f:=zai (by simp)
theorem qeP{l:List ak}{e:List av}(he: ∀y∈e,ig l y)(hs:e.Pairwise λa b=>mj a b=true){q d:Int}(hq:0<=q/\q<(e.length:Int))(hd:0<=d/\d<3):
  (∀y∈(e.drop q.toNat).take ((min (e.length:Int) (q+1+d)).toNat-q.toNat),ig l y)/\((e.drop q.toNat).take ((min (e.length:Int) (q+1+d)).toNat-q.toNat)).Pairwise (λa b=>mj a b=true)/\
   1<=((e.drop q.toNat).take ((min (e.length:Int) (q+1+d)).toNat-q.toNat)).length/\((e.drop q.toNat).take ((min (e.length:Int) (q+1+d)).toNat-q.toNat)).length<=3:=by
 refine⟨λy hy=>he y (zbV (zbq hy)),hs.sublist ((zcX _ _).trans (List.drop_sublist _ _)),?_,?_⟩
 ·rw[zay,zbd];omega
 rw[zay];omega
section
variable{X:XF}
theorem qeQ:FD X 77 UQ:=FD.mk (H:=[]) (hk:=[]) (by kernel_rfl) .nil .nil (by
 intro ps R ae hh;obtain⟨l,n,rfl,rfl,⟨hl,hn⟩,hp⟩:=hh
 (rw[<-qeB];delta gu Zdf Z7 Za Z9 Zj pL vp Zde)
 refine ao (by omega) λc hc=> ?_;have hm:(l.map bE).length=l.length:=zaa ..;rw[hm] at hc⊢;have hq:=tD hn.1 (show 0<c+1 by omega);refine ao (by omega) (aq (by rw[zaL (by omega)];rfl) (By (λ_=>hp aB (.inl rfl)) λh=>ao (by omega) ?_));generalize n.tmod (c+1)=q at*
 have bI:q.toNat<l.length:=by omega
 rw[aA _ _ _ bI];exact aq (lJ _) (hp _ (.inr (zas bI))))
theorem qhq:FD X 50 qeC:=FD.mk (H:=[(76,qex),(77,UQ),(78,hJn),(32,T4),(79,qep),(80,qev)]) (hk:=[]) (by kernel_rfl)
  (.cons qg8 (.cons qeQ (.cons qiZ (.cons qek (.cons qhb (.cons qhd .nil)))))) .nil (by
 intro ps R ae hh;obtain⟨i,l,v,r,x,rfl,rfl,⟨hl,hi,hx⟩,hp⟩:=hh
 (rw[<-qi1];delta ZO Ou gu M8 Z3 yn Z7 gR gP ia gC gD ib wi Zdc Za Z9 Zd7 Vp Z2N Ra Xn Zdb Z2y fu mB Zx um iU cW dq Zdd Zd6 ll ln Zd8 Zd9 Zd3 pS Zd2 lL Zd0 T1 Zda eL eu T0 Xa BH Av Ec ZR ZcZ Zd5 UR Zd1 Zcv gh)
 have hL:=hl.known v;have hlen:=hL.len;have Ax:=hL.df;have hq:=tD hx.b.1 (show(0:Int)<3 by decide);have Fa:=qho (q:=x.b.tmod 3) (by omega);have hk:=tD hx.c.1 (show(0:Int)<5 by decide);have hd:=tD hx.c.1 (show(0:Int)<2 by decide);have hd3:=tD hx.c.1 (show(0:Int)<3 by decide);have huv:=qhp hk hd;have hc:=hx.c;have hb:=hx.b;have h0:(aT l v).length<=1000000/\df (aT l v)<=1000:=by omega
 refine⟨_,true,rfl,rfl,h0,λds hds=>⟨_,false,rfl,rfl,h0,λfs hfs=>ao Fa.1.1 (ao Fa.1.2 ?_)⟩⟩;have hrd: ∀y,(y=aB\/y∈ds)->(y=aB\/ig (aT l v) y):=λy h=>h.imp_right λh=>LL hL (hds▸h);have hrf: ∀y,(y=aB\/y∈fs)->(y=aB\/ig (aT l v) y):=λy h=>h.imp_right λh=>LL hL (hfs▸h);have hra: ∀y,(y=aB\/y∈fs++ds)->(y=aB\/ig (aT l v) y):=λy h=>h.elim .inl λh=>(zaE.1 h).elim (λh=>hrf y (.inr h)) λh=>hrd y (.inr h);have hdl:ds.length<=1000000:=by rw[hds];have:=nb true (aT l v);omega
 have vH:fs.length<=1000000:=by rw[hfs];have:=nb false (aT l v);omega
 have Kv:(fs++ds).length<=1000000:=by have:=nb true (aT l v);have:=nb false (aT l v);rw[zan,hfs,hds];omega
 have hdp: ∀(Q:av->Prop),(∀y,(y=aB\/ig (aT l v) y)->Q y)-> ∃(m:List av) (n:Int),[P.d (D.sl 3 (List.take ds.length (ds.map bE))),P.d (D.int .u8 x.a)]=[P.d (D.sl 3 (m.map bE)),P.d (D.int .u8 n)]/\EqR [] []/\(m.length<=1000000/\0<=n/\n<=255)/\ ∀y,(y=aB\/y∈m)->Q y:=
  λQ h=>⟨ds,x.a,by rw[jV],rfl,⟨hdl,hx.a⟩,λy hy=>h y (hrd y hy)⟩
 have qax: ∀y:av,(y.1==(0:Int)&&(y.2.1==(0:Int)&&true)&&(y.2.2==(0:Int)&&true))=(y==aB):=λy=>tj y aB;have dI: ∀y:av,(y=aB\/ig (aT l v) y)->(!(y==aB))=true->ig (aT l v) y:=λy h h1=>h.resolve_left λe=>by rw[e] at h1;simp at h1
 refine⟨fs,x.a,by rw[jV],rfl,⟨vH,hx.a⟩,λf hf=> ?_⟩;have hf:=hrf f hf;refine By (λ_=>hdp _ λy hy=>hp (qL (fO l v r) y _ true) true λ_=>⟨⟨_,LJ hl hy Fa.2 true⟩,by simp[qL],by simp[qL]⟩) λ_=>
  By (λ_=>hdp _ λy hy=>hp (qL (fO l v r) y _ false) true λ_=>⟨⟨_,LJ hl hy Fa.2 false⟩,by simp[qL],by simp[qL]⟩) λ_=>
  By (λ_=>⟨fs,ds,by rw[jV,jV],rfl,⟨vH,hdl⟩,λa ha=>⟨a,x.c,by rw[jV],rfl,⟨by rw[ha];exact Kv,hx.c⟩,λy hy=>hdp _ λz hz=> ?_⟩⟩) λ_=>
  By (λ_=>⟨fs,ds,by rw[jV,jV],rfl,⟨vH,hdl⟩,λa ha=>⟨a,x.c,by rw[jV],rfl,⟨by rw[ha];exact Kv,hx.c⟩,λy hy=>⟨aT l v,rfl,rfl,hL.smS (by omega),λon t p it Hr ht _ _=>⟨t.h,t.g,y,rfl,rfl,?_,λd km=> ?_⟩⟩⟩⟩) λ_=> ?_
 ·have hy:=hra y (by rw[<-ha];exact hy);rw[qax];exact hp (Um y z _) (!(y==aB)) λh=>⟨⟨_,qac hl (dI y hy h) hz Fa.2⟩,by simp[Um],by simp[Um]⟩
 ·have hR:=hL.right;have hB:=BF (on:=on) (l:=aT l v) hL.Hy _ (zaj _);rw[zak] at hB;rw[ht,hR];have h1:=hB.2.2.1;have h2:=hB.2.2.2;exact⟨by omega,by omega⟩
 ·have hy:=hra y (by rw[<-ha];exact hy);have hd4:=qaj hL (by omega) (on:=on) (g:=t.g) (x:=y);rw[qax,jV];rw[hL.right] at ht;rw[<-ht,<-km] at hd4;exact hp (Un y d) (!(y==aB)) λh=>⟨⟨_,qad hl (dI y hy h) hd4.1 hd4.2.1 hd4.2.2⟩,by simp[Un],by simp[Un]⟩
 have hes:(aT l v).length<=1000000/\df (aT l v)<=1000/\mx (fy (aT l v) f):=⟨h0.1,h0.2,qaw hL (by omega) f⟩
 have Oh:(JT (aT l v) f).length<=1000000:=by have:=wX (l:=fy (aT l v) f) _ (zaj _);rw[zak] at this;have:=hes.2.2.2.1;unfold JT;rw[mV,zaa];omega
 refine By (λh4=>By (λ_=> ?_) λh=>absurd h4 h) λ_=>By (λ_=> ?_) λ_=> ?_
 rotate_left 2
 ·refine⟨_,f,rfl,rfl,hes,λe he=> ?_⟩;rw[qax];have b7:ae (P.cX [P.d (eI ⟨0,aB,aB,[],false,[],aB,aB,[],[]⟩),P.d (D.bool false)],[]):=hp _ false λh=>by cases h
  refine ay (λ_=>b7) λhf2=>By (λ_=>b7) λKk=> ?_;have hfr:ig (aT l v) f:=dI f hf (by rw[hf2];rfl);have hq2:=tD hx.b.1 (show(0:Int)<(e.length:Int) by omega);have qjm:e.length<=1000000:=by rw[he];exact Oh
  have hct:=qeP (e:=e) (λy hy=>GQ hL (he▸hy)) (by rw[he];exact N7 _ _) hq2 hd3;generalize x.b.tmod (e.length:Int)=q at*
  generalize x.c.tmod 3=d at*
  refine ao (by omega) (aq (by rw[zaL (by omega)];rfl) (ao (by omega) (ao (by omega) (ao (by omega) (ao (by omega) (ao (by omega) ?_))))));rw[<-List.map_drop,<-List.map_take];exact hp (qab f _) true λ_=>⟨⟨_,qaf hl hfr hct.1 hct.2.1 hct.2.2.1 hct.2.2.2⟩,by simp[qab],hct.2.2.2⟩
 all_goals
  refine ao (by omega) ⟨_,f,rfl,rfl,hes,λe he=>⟨e,x.b,by rw[jV],rfl,⟨by rw[he];exact Oh,hx.b⟩,λa ha=> ?_⟩⟩;rw[qax];have ha:a=aB\/ig (aT l v) a:=ha.imp_right λh=>GQ hL (he▸h);generalize x.c.tmod 5=k at*
  generalize x.c.tmod 2=d at*
  refine ao (by omega) (ao (by omega) (ao (by omega) (ao (by omega) (ao (by omega) ?_))));exact hp (qaa (fO l v r) f a _) (!(f==aB)) λh=>⟨⟨_,qae hl (dI f hf h) ha huv.1⟩,huv.2,by simp[qaa]⟩)
theorem jx.all{i:Int}{l:List ak}{K:List (List Int)}(h:ov i l K){r:Int}(h1:1<=r)(h2:r<=3): ∀(M:List (List Int)) (v:List Int),jx i K r v->(∀w∈M,w∈K)->jx i K r (mgA v M)
 | [],_,hv,_=>hv
 |w::M,v,hv,hM=>jx.all h h1 h2 M (mh v w) (jx.merge h h1 h2 hv (hM w (.head _))) λx hx=>hM x (.tail _ hx)
theorem U5: ∀(M:List (List Int)) (v:List Int),cQ v=true->(∀w∈M,cQ w=true)->cQ (mgA v M)=true
 | [],_,hv,_=>hv
 |w::M,v,hv,hM=>U5 M (mh v w) (BR hv (hM w (.head _))) λx hx=>hM x (.tail _ hx)
theorem qay(v:List Int):cD PR 31 (D.sl 1 (aZ v))=true:=by kernel_rfl
theorem qaz:LD X 29 5 (ah (aO 29 5) qeE):=LD.idx (H:=[(47,IF)]) (hk:=[]) (by kernel_rfl) (by kernel_rfl) (.cons QK .nil) .nil
 (A:=List ak×List (List Int)×cC×Int×List Int) (B:=List Int) (λa v i=>dn5 a.1 a.2.1 a.2.2.1 a.2.2.2.1 v i) (λa=>a.2.1.length)
 (λa i v=>JY a.2.2.2.2 a.2.1/\v=mgA a.2.2.2.2 (a.2.1.take i))
 (λa z=>z=(.exit 0,⟨120,[(2,.ref 0 0 0),(3,.ref 1 0 0),(4,.ref 2 0 0),(5,iD a.2.2.2.1),(6,vD (mgA a.2.2.2.2 a.2.1))],[(0,⟨0,none,bxW a.1 a.2.1⟩),(1,⟨0,none,qeD a.2.2.1⟩),(2,⟨0,none,.box 62 [.sl 3 0 0,.sl 4 0 0]⟩),(3,⟨0,none,qC false []⟩),(4,⟨0,none,arV false []⟩)]⟩))
 (by
  rintro⟨l,K,x,r,v0⟩ v i ae h0 bQ bj ⟨hc,hv⟩ hn bw
  try dsimp only at*
  (rw[<-qbv];delta OC Ei cW dq OM Zdi Zn ZL Zt Eb sc jE sa cb Jg Za Z9 Zj Zx Zk ZW Zg)
  have e1:D.nth (K.map λv=>D.sl 1 (aZ v)) i.toNat=D.sl 1 (aZ K[i.toNat]):=aA _ _ _ bj;have gf:0<=i/\i<((K.map λv=>D.sl 1 (aZ v)).length:Int):=by rw[zaa];exact⟨h0,bQ⟩
  have hvo:cQ v=true:=by rw[hv];exact U5 _ _ hc.2.1 λw hw=>hc.2.2 w (zbq hw)
  have hwo:=hc.2.2 _ (zas bj);have lM:mgA v0 (K.take (i.toNat+1))=mh v K[i.toNat]:=by rw[hv];unfold mgA;rw[zag bj,za2];rfl
  have hl1:=n9 hvo;have G9:=n9 hwo;have hK:=hc.1;rw[e1];generalize K[i.toNat]=w at*
  refine bM gf.2 (ao gf (aq (qay _) ⟨v,w,rfl,rfl,⟨?_,?_⟩,ao (by omega) (hn _ ⟨hc,lM.symm⟩)⟩))
  ·unfold iQ;omega
  unfold iQ;omega)
 (by
  rintro⟨l,K,x,r,v0⟩ v i ae hi ⟨hc,hv⟩ bw
  try dsimp only at*
  (rw[<-qbv];delta OC Ei cW dq OM Zdi Zn ZL Zt Eb sc jE sa cb Jg Za Z9 Zj Zx Zk ZW Zg)
  refine mq (by rw[zaa];omega) (bw _ (λh=>by cases h) ?_);rw[hv,zak];rfl)
 (by rintro s ae ⟨l,K,x,r,v,rfl,hc,hp⟩;refine⟨(l,K,x,r,v),v,rfl,⟨hc,rfl⟩,?_⟩;rintro z rfl;exact hp _ rfl)
theorem qeR:FD X 29 LM:=FD.mk (H:=[(48,hKn),(13,Vm),(46,JI),(49,UI),(50,qeC)]) (hk:=[(5,ah (aO 29 5) qeE)]) (by kernel_rfl)
  (.cons qiY (.cons FI (.cons YG (.cons qez (.cons qhq .nil))))) (.cons qaz .nil) (by
 intro ps R ae hh;obtain⟨i,l,K,x,rfl,rfl,⟨⟨hl,hK,h0,hi⟩,hx⟩,hp⟩:=hh
 (rw[<-qi2];delta US Zdl Ei Oc Zdu ZdH ZdG Zt Zv Q9 vQ vR vS zp Ah zq Ai Aj lq zr zs zt zu zw uo uq ur vT Ak Z7 ZdF lr VS ZdE ZE cW fu ZbO Zc ZdC fH ZdB ot Zds ZdA Zn Zdz Zdy Zdw Za Z9 Zb Zdv Hh Z9d Zk Z9c GU Zdr Zdq ON UR Zj dq ZbP Zdo Zy Zz Zw mB Zx ZW Eb OC OM Zdi rI OO OP sc jE sa cb Jg Zdk)
 have hr:=tD hx.r.1 (show(0:Int)<3 by decide);have hxr:=hx.r;have hxa:=hx.a;have h3:=hK.len;have qv:=hl.len;generalize x.r.tmod 3=q at*
 have uI:(1+q-1).toNat=q.toNat:=by omega
 have hqn:q.toNat<K.length:=by omega
 have e1:D.nth (K.map λv=>D.sl 1 (aZ v)) q.toNat=D.sl 1 (aZ K[q.toNat]):=aA _ _ _ hqn;have hS:=jx.start hK (r:=1+q) (by omega) (by omega);have hv0:K.getD (1+q-1).toNat []=K[q.toNat]:=by rw[uI,zac,zae hqn];rfl
 rw[hv0] at hS;simp only[zbg,zaG,zaa,zap,zat,uI,e1];have u0:D.fa (D.sl 1 (aZ K[q.toNat]))=aZ K[q.toNat]:=rfl;rw[u0];have hNo:BU i l x l K:=⟨hl.mono,hK.mono,λ_ h=>h⟩
 have b7:=hp l K hNo;have hMo: ∀v g,jx i K (1+q) v->zd l v (1+q) g->(x.what.tmod 8≠7->g.bY=(0,0))->BU i l x (l++[g]) (K.set q.toNat (bq (gK v (1+q) (eG v (1+q)+1)))):=λv g hv hg hz=>by
  have:=hg.qcs hl hK ⟨h0,by omega⟩ (by omega) (by omega) hv;rw[uI] at this;refine⟨this.1,this.2,λh7 hy y hy2=> ?_⟩;rcases zaE.1 hy2 with h |h
  ·exact hy y h
  rw[za0.1 h];exact hz h7
 have hEq: ∀(g:ak) (u:List Int) (z:List D),D.agg [D.sl 7 ((l++[g]).map aV),D.sl 1 ((K.set q.toNat u).map λv=>D.sl 1 (aZ v))]=D.agg [D.sl 7 (List.take (l.length+1) (List.take l.length (l.map aV)++[aV g])),D.sl 1 (List.take K.length ((K.map λv=>D.sl 1 (aZ v)).set q.toNat (D.aW (D.sl 1 z) [D.sl 1 (aZ u)])))]:=λg u z=>by simp[D.aW,zb1,zai]
 refine ao (by omega) (ao (by omega) (ao (by omega) (ao (by omega) (aq (qay _) (ay (λ_=>⟨l,K,x,1+q,K[q.toNat],rfl,⟨by omega,hS.vec.1,λw hw=>(hK.vec w hw).1⟩,λv hv=> ?a⟩) λ_=> ?b)))))
 case' a=>
  replace hS:jx i K (1+q) v:=by rw[hv];exact jx.all hK (by omega) (by omega) K _ hS λ_ h=>h
  clear hv
 case' b=>generalize K[q.toNat]=v at*
 all_goals
  have hvl:=n9 hS.vec.1;have ha:=za hS.vec.1 (1+q);have hb:=hS.vec.2 (1+q);have hm:=hl.jD h0 v;have tG:=(hl.known v).len;have hrk:aM K.length 24=true:=cp (by omega) (by omega);have hrl:aM l.length 88=true:=cp (by omega) (by omega);have qhr:aM (l.length+1) 88=true:=cp (by omega) (by omega);have hwo:=λg=>hMo v g hS;refine⟨l,v,rfl,rfl,⟨by omega,by omega⟩,λo ho=>⟨v,1+q,rfl,rfl,by omega,ao (by omega) ⟨o,by rw[jV],rfl,by rw[ho];omega,λt ht=>ao (by rw[ho] at ht;omega) (By (λh7=> ?_) λh7=> ?_)⟩⟩⟩
  ·refine By (λ_=>b7) λdI=> ?_;have hq2:=tD hxa.1 (show(0:Int)<(o.length:Int) by omega);generalize x.a.tmod (o.length:Int)=p at*
   have hpn:p.toNat<o.length:=by omega
   have e2:D.nth (o.map aV) p.toNat=aV o[p.toNat]:=aA _ _ _ hpn;rw[e2];have hym:o[p.toNat]∈aT l v:=ho▸zas hpn;generalize o[p.toNat]=y at*
   refine ao (by omega) (aq (by rw[zaL (by omega)];rfl) (ao (by omega) (ao hpn (aq (gi _) ⟨v,1+q,_,rfl,rfl,⟨by omega,by omega,by omega⟩,λw hw=>aq (by rw[hrk];rfl) (ao (by omega) (ao (by omega) ?_))⟩))))
   try rw[uI,e1]
   refine ao hqn (aq (qay _) (aq (by rw[hrl];rfl) (aq (by rw[qhr];simp) ?_)));rw[hw];have hg:=hp _ _ (hwo ⟨fO l v (1+q),eG v (1+q)+1,v,y.s,[]⟩ ⟨rfl,rfl,rfl,.inl ⟨y,hym,rfl,rfl⟩⟩ λh=>absurd h7 h);refine Eq.mp (congrArg (λz=>ae (P.d z,[])) ?_) hg;rw[ht,ho];exact hEq _ _ _
  refine⟨i,l,v,1+q,x,by rw[jV,ho,ht,ho];rfl,rfl,⟨hl,⟨h0,hi⟩,hx⟩,λu b hu=>ay (λ_=>b7) λcr=>⟨v,1+q,_,rfl,rfl,⟨by omega,by omega,by omega⟩,λw hw=>aq (by rw[hrk];rfl) (ao (by omega) (ao (by omega) ?_))⟩⟩;obtain⟨⟨m,EH⟩,hu2,hu3⟩:=hu (by simpa using cr)
  try rw[uI,e1]
  refine ao hqn (aq (qay _) (aq (by rw[hrl];rfl) (aq (by rw[qhr];simp) ?_)));rw[hw];have hg:=hp _ _ (hwo ⟨fO l v (1+q),eG v (1+q)+1,v,(0,0),[u]⟩ ⟨rfl,rfl,rfl,.inr ⟨rfl,u,m,rfl,EH,hu2,hu3⟩⟩ λ_=>rfl);refine Eq.mp (congrArg (λz=>ae (P.d z,[])) ?_) hg;rw[ht,ho];exact hEq _ _ _)
theorem bx.le{i j:Int}{l:List ak}(h:bx i l)(qw:i<=j):bx j l:=⟨h.Hy,h.nd,λg hg=>by have:=h.sm g hg;exact⟨this.1,by omega,this.2.2⟩,by have:=h.len;omega⟩
theorem qhs(x:cC):cD PR 41 (wk x)=true:=by kernel_rfl
def U6(m:List cC)(b:List ak×List (List Int))(i:Int):S:=if i=0 then oN m else hi3 m b.1 b.2 i
theorem qaA:LD X 11 3 (ah (aO 11 3) qeF):=LD.idx (H:=[(29,LM)]) (hk:=[]) (by kernel_rfl) (by kernel_rfl) (.cons qeR .nil) .nil
 (A:=List cC) (B:=List ak×List (List Int)) U6 (λm=>min m.length 16)
 (λm i b=>zj m/\(i=0->b=([],[[],[],[]]))/\WOk i b.1 b.2/\((∀x∈m,x.what.tmod 8≠7)-> ∀y∈b.1,y.bY=(0,0)))
 (λm z=>(z=(.exit 0,⟨25,[(3,.ref 0 0 0)],[(0,⟨0,none,.box 62 [.d .fP,.sl 1 0 3]⟩),(1,⟨0,none,arV false [[],[],[]]⟩)]⟩))\/ ∃l K,BV m l/\z=(.exit 0,⟨25,[(3,.ref 0 0 0)],[(0,⟨0,none,bxW l K⟩)]⟩))
 (by
  rintro m ⟨l,K⟩ i ae h0 bQ bj ⟨hc,hb,hw,hz⟩ hn bw
  try dsimp only at*
  have Wc:i<m.length:=by omega
  have hmn:i.toNat<m.length:=by omega
  have e1:D.nth (m.map wk) i.toNat=wk m[i.toNat]:=aA _ _ _ hmn;have hx:=hc.2 _ (zas hmn);have gf:0<=i/\i<((m.map wk).length:Int):=by rw[zaa];exact⟨h0,Wc⟩
  have MJ: ∀l' K',BU i l m[i.toNat] l' K'->ae (.normal,hi3 m l' K' (i+1)):=λl' K' h=>by
   have Ol:((i.toNat+1:Nat):Int)=i+1:=by omega
   have:=hn (l',K') ⟨hc,λh=>by omega,by rw[Ol];exact⟨h.1,h.2.1,by omega,by omega⟩,λhh=>h.2.2 (hh _ (zas hmn)) (hz hh)⟩;unfold U6 at this;rw[zam (by omega)] at this;exact this
  have hwi:WOk i l K:=by rw[show((i.toNat:Nat):Int)=i by omega] at hw;exact hw
  unfold U6;by_cases oN:i=0
  ·rw[zao oN];subst oN;have hb:=hb rfl;cases hb
   (rw[<-qbx];delta Lw ZdM cb dH Hn Ei cW dq OM ZR ZdK Zx VS ON ZdL ZdI)
   have e2:D.nth (m.map wk) 0=wk m[Int.toNat 0]:=e1;rw[e2];refine bM gf.2 (ao gf (aq (qhs _) ⟨0,[],[[],[],[]],m[Int.toNat 0],rfl,rfl,⟨hwi,hx⟩,λl' K' h=>MJ l' K' h⟩))
  rw[zam oN]
  (rw[<-qbw];delta cb dH Hn Ei cW dq OM Zn vr ZdK Za Z9 Zj Zx VS ON Zg ZdJ ZdI;rw[e1])
  exact bM gf.2 (bM (by omega) (ao gf (aq (qhs _) ⟨i,l,K,m[i.toNat],rfl,rfl,⟨hwi,hx⟩,λl' K' h=>ao (by omega) (MJ l' K' h)⟩))))
 (by
  rintro m ⟨l,K⟩ i ae hi ⟨hc,hb,hw,hz⟩ bw
  try dsimp only at*
  unfold U6;by_cases oN:i=0
  ·rw[zao oN]
   (rw[<-qbx];delta Lw ZdM cb dH Hn Ei cW dq OM ZR ZdK Zx VS ON ZdL ZdI)
   exact mq (by rw[zaa];omega) (bw _ (λh=>by cases h) (.inl rfl))
  rw[zam oN]
  (rw[<-qbw];delta cb dH Hn Ei cW dq OM Zn vr ZdK Za Z9 Zj Zx VS ON Zg ZdJ ZdI)
  have hH:BV m l:=⟨hw.1.le (by omega),hz⟩
  have Xs:=bw _ (λh=>by cases h) (.inr ⟨l,K,hH,rfl⟩);exact cE (λh1=>cE (λh2=>by rw[zaa] at h1;omega) λ_=>Xs) λ_=>Xs)
 (by
  rintro s ae ⟨m,rfl,hc,h1,h2⟩;refine⟨m,([],[[],[],[]]),by unfold U6;rw[zao rfl],⟨hc,λ_=>rfl,⟨Ui.1,Ui.2,by decide,by decide⟩,λ_ y hy=>by cases hy⟩,?_⟩;rintro z (rfl | ⟨l,K,h,rfl⟩)
  ·exact h1
  exact h2 l K h)
theorem qht:FD X 11 qeG:=FD.mk (H:=[]) (hk:=[(3,ah (aO 11 3) qeF)]) (by kernel_rfl) .nil (.cons qaA .nil) (by
 intro ps R ae hh;obtain⟨m,rfl,rfl,hs,h1,h2⟩:=hh
 (rw[<-qhe];delta cW dq OC Z5l ZQ Lw ZdM Z7 Ng cb dH ZdK)
 exact⟨m,rfl,hs,h1,λl _ h=>h2 l h⟩)
end
abbrev sgH(a b:ak)(i:Int):S:=⟨61,[(2,.ref 0 0 0),(3,.ref 1 0 0),(5,iD i)],[(0,⟨0,none,YO a⟩),(1,⟨0,none,YO b⟩)]⟩
def hNo:br:=λ_ _ _=>False
theorem qhu(a b:ak)(i:Int)(ae:PX×S->Prop):(bif Rq i a then bif Oy i a then bif Ox a i then bif Oy i b then bif Ox b i then False else False else False else False else False else ae (PX.exit 0,S.mk 61 [] []))=(aG [(39,hNo)] [] 22 4 (sgH a b i)) ae:=by kernel_rfl
def gSg:S->K (PX×S):=λs ae=> ∃a b,s=sgH a b 0/\a.ops=[]/\ae (.exit 0,⟨61,[],[]⟩)
def Ze8(a:ak)(b:ak):S:=S.mk 61 (Jg::sa::ZN) [(0,lu a),(1,lu b)]
theorem qjb(a b:ak)(ae:P×List (Nat×En)->Prop):(bif !(jB a==jB b&&(jA a==jA b&&true)) then Z4 ae else bif ak.n a !=ak.n b then Z4 ae else∃(v:List Int) (w:List Int),[nV a,nV b]=Zk v::ZW w/\Zx/\iQ v/\bif !decide (v=w) then Z4 ae else bif !(Prod.fst (ak.bY a)==Prod.fst (ak.bY b)&&(Prod.snd (ak.bY a)==Prod.snd (ak.bY b)&&true)) then Z4 ae else bif vV a !=vV b then Z4 ae else∃(kF:ak) (SI:ak),Ze8 a b=Ze8 kF SI/\ak.ops kF=[]/\ZP ae)=(aK [(26,FK)] [(4,ah (aO 22 4) gSg)] 22 [.d (aV a),.d (aV b)] []) ae:=by kernel_rfl
def hSg:br:=λps R ae=> ∃a b:ak,ps=[.d (aV a),.d (aV b)]/\R=[]/\(a.ops=[]/\b.ops=[]/\iQ a.deps)/\ ∀c:Bool,(c=true↔a=b)->ae (.d (.bool c),[])
def uF:ak:=⟨(1,1),1,[],(0,0),[⟨0,(1,1,0),aB,[97],true,[],aB,aB,[],[]⟩]⟩
def Ze9:D:=D.agg [ZR,ZR,ZR,Lw,Z7,Z7,D.sl 18 [D.agg (Z7::ZR::ZR::Z7::Z7::Z7::Z7::D.str [(97:UInt8)]::D.bool true::M8::Ra)]]
theorem qeS(ae:P×List (Nat×En)->Prop):(ae (P.d Ze9,[]))=(aK [] [] 21 [] []) ae:=by kernel_rfl
def U7:br:=λps R ae=>ps=[]/\R=[]/\ae (.d (aV uF),[])
def Zee(a_4:ak)(b:ak):Prop:=ak.ops a_4=[]/\ak.ops b=[]/\iQ (ak.deps a_4)
def Zed(e:Int)(l:List ak)(r:Int):Prop:=e=pO (aI l) r
def Zec(g:ak)(l:List ak)(r:Int):Prop:=g=vu (aI l) r
def Zeb(l:List ak)(r:Int):Prop:=P.d (D.sl 7 [Ze9])::ZX=LG l r
def Zea:Prop:=EqP [] []
theorem qeT(ae:P×List (Nat×En)->Prop):(Zea/\Zx/\ ∃(l:List ak) (r:Int),Zeb l r/\Zx/\mn l/\ ∀(g:ak) (e:Int),Zec g l r->Zed e l r-> ∃(l:List ak) (r:Int),Zeb l r/\Zx/\mn l/\ ∀(a:az×Int),a=vv l r-> ∃(l:List ak) (r:Int),Zeb l r/\Zx/\mn l/\ ∀(a_2:az×Int),a_2=q7 l r->bif e==(0:Int) then∃(a_4:ak) (b:ak),[oR g,P.d (D.agg (Xa::ZR::Xa::D.sl 1 [ZR]::Z96))]=oR a_4::Je b/\Zx/\Zee a_4 b/\ ∀(c:Bool),(c=true↔a_4=b)->bif c then bif Prod.snd a==(0:Int) then bif Prod.fst (Prod.fst a)==D.aj (D.ar (D.nth [Ze9] 0) 0)&&(Prod.snd (Prod.fst a)==D.aj (D.ar (D.nth [Ze9] 0) 1)&&true) then ae (P.d (D.bool (Prod.snd a_2==(200:Int))),[]) else Z4 ae else Z4 ae else Z4 ae else Z4 ae)=(aK [(21,U7),(12,hHn),(19,vF),(17,vG),(22,hSg)] [] 9 [] []) ae:=by kernel_rfl
def zl:br:=λps R ae=>ps=[]/\R=[]/\ae (.d (.bool true),[])
theorem BW{α:Type}(f:α->D)(P:D->Prop)(Q:α->Prop)(h1: ∀y,P y-> ∃x,y=f x/\Q x): ∀es:List D,(∀y∈es,P y)-> ∃l:List α,es=l.map f/\ ∀x∈l,Q x
 | [],_=>⟨[],rfl,by simp⟩
 |y::es,hy=>by obtain⟨l,rfl,hl⟩:=BW f P Q h1 es λy h=>hy y (.tail _ h);obtain⟨x,rfl,hx⟩:=h1 y (hy y (.head _));exact⟨x::l,rfl,λz hz=>by rcases zav.1 hz with rfl |hz;exact hx;exact hl z hz⟩
section
variable{X:XF}
theorem qhv:FD X 39 hNo:=FD.mk (H:=[]) (hk:=[]) (by kernel_rfl) .nil .nil (by intro ps R ae hh;exact False.elim hh)
theorem qaB:LD X 22 4 (ah (aO 22 4) gSg):=LD.idx (H:=[(39,hNo)]) (hk:=[]) (by kernel_rfl) (by kernel_rfl) (.cons qhv .nil) .nil
 (A:=ak×ak) (B:=Unit) (λa _ i=>sgH a.1 a.2 i) (λ_=>0) (λa _ _=>a.1.ops=[]) (λ_ x=>x=(.exit 0,⟨61,[],[]⟩))
 (by rintro a _ i ae h0 bQ bj hI hn ho;exact absurd bj (by simp))
 (by
  rintro⟨a,b⟩ _ i ae hi hI ho
  try dsimp only at*
  (rw[<-qhu];delta Zg jC Ox vV Oy Rq)
  have gf: ¬i<((a.ops.map eI).length:Int):=by rw[hI,hi];decide
  exact jq (zaL gf) (ho _ (λh=>by cases h) rfl))
 (by rintro s ae ⟨a,b,rfl,h1,h2⟩;refine⟨(a,b),(),rfl,h1,?_⟩;rintro x rfl;exact h2)
theorem qhw:FD X 22 hSg:=FD.mk (H:=[(26,FK)]) (hk:=[(4,ah (aO 22 4) gSg)]) (by kernel_rfl) (.cons QI .nil) (.cons qaB .nil) (by
 intro ps R ae hh;obtain⟨a,b,rfl,rfl,⟨ha,hb,hv⟩,hp⟩:=hh
 (rw[<-qjb];delta ZO ZP oQ jy jz nV qA jA gO jB gQ lu Z7 ZN jE sa cb Jg Ze8 vV Zx Zk ZW Z3 Z4)
 obtain⟨s,n,d,u,o⟩:=a;obtain⟨s',n',d',u',o'⟩:=b;dsimp only at*
 subst ha hb;have v1:(s.1==s'.1&&(s.2==s'.2&&true))=(s==s'):=Nb s s';have v2:(u.1==u'.1&&(u.2==u'.2&&true))=(u==u'):=Nb u u';rw[v1,v2];refine ay (λh=>hp false ⟨(λh=>by cases h),λe=> ?_⟩) λh1=>ay (λh=>hp false ⟨(λh=>by cases h),λe=> ?_⟩) λh2=>⟨d,d',rfl,rfl,hv,ay (λh=>hp false ⟨(λh=>by cases h),λe=> ?_⟩) λh3=>ay (λh=>hp false ⟨(λh=>by cases h),λe=> ?_⟩) λh4=>jq rfl ⟨⟨s,n,d,u,[]⟩,⟨s',n',d',u',[]⟩,rfl,rfl,hp true ⟨λ_=> ?_,λ_=>rfl⟩⟩⟩
 ·cases e;simp at h
 ·cases e;simp at h
 ·cases e;simp at h
 ·cases e;simp at h
 simp only[zcS,zaR,zah,bne_eq_false_iff_eq] at h1 h2 h3 h4;rw[h1,h2,h3,h4])
theorem qeU:FD X 21 U7:=FD.mk (H:=[]) (hk:=[]) (by kernel_rfl) .nil .nil (by
 intro ps R ae hh;obtain⟨rfl,rfl,hp⟩:=hh
 (rw[<-qeS];delta Z2N yn Z7 Ra M8 Lw ZR Ze9)
 exact hp)
theorem U8:mn [uF]:=⟨by decide,λg hg=>by
 rw[za0] at hg;subst hg;exact⟨λo ho=>by
  have:o=⟨0,(1,1,0),aB,[97],true,[],aB,aB,[],[]⟩:=by simpa [uF] using ho
  subst this;exact⟨by decide,by decide,by decide⟩,by decide,by decide⟩⟩
def qeV:ak:=⟨(2,1),2,[1],(0,0),[]⟩
variable(hX:XT X)
include hX
theorem Oe:FD X 9 zl:=FD.mk (H:=[(21,U7),(12,hHn),(19,vF),(17,vG),(22,hSg)]) (hk:=[]) (by kernel_rfl) (.cons qeU (.cons qgy (.cons (LR hX) (.cons (LS hX) (.cons qhw .nil))))) .nil (by
 intro ps R ae hh;obtain⟨rfl,rfl,hp⟩:=hh
 (rw[<-qeT];delta Z3 Z4 Z2N yn Z7 Ra M8 Lw ZR Ze9 Zee jy jz jA gO jB gQ oR Je Z96 Xa Zed Zec Zt Zv cW dq LG ZX Zeb Zx Zea)
 refine⟨rfl,rfl,[uF],1,rfl,rfl,U8,λg e hg he=>⟨[uF],1,rfl,rfl,U8,λa ha=>⟨[uF],1,rfl,rfl,U8,λb hb=> ?_⟩⟩⟩;have e1:g=qeV:=hg.trans (by kernel_rfl);have e2:e=0:=he.trans (by kernel_rfl);have e3:a=((1,1),0):=ha.trans (by kernel_rfl);have e4:b=((0,0),200):=hb.trans (by kernel_rfl);rw[e1,e2,e3,e4];refine gI rfl ⟨qeV,qeV,rfl,rfl,⟨rfl,rfl,by decide⟩,λc hc=> ?_⟩;have:c=true:=hc.2 rfl;subst this;exact gI rfl (gI rfl (gI rfl hp)))
end
def Zei(r:Int):List P:=[P.d (D.int .i64 ((1:Int)+Int.tmod r (4:Int)))]
def Zeh(r:Int):Bool:=decide (Z9<=(1:Int)+Int.tmod r (4:Int)/\(1:Int)+Int.tmod r (4:Int)<=Za)
def Zeg(m:List cC)(bZ:List cC):Prop:=[P.d (D.sl 6 (List.map wk m))]=[P.d (D.sl 6 (List.map wk bZ))]
def Zer(g:ak):List D:=[D.agg [gQ g,gO g,D.int .i64 (ak.n g),D.sl 1 (aZ (ak.deps g)),jz g,jy g,D.sl 18 [D.agg (Z7::gQ g::gO g::Z7::Z7::Z7::Z7::D.str [(110:UInt8),(101:UInt8),(119:UInt8)]::Xn)]]]
def Zet(g:List ak)(aQ:ak)(r:Int)(l:List ak)(vn:Int):Prop:=P.d (D.sl 7 (List.take (0+fH g+List.length (Zer aQ)) (ZdB g++Zer aQ)))::Zei r=LG l vn
def Zes(l:List ak)(UT:Int)(a:az×Int)(ae:P×List (Nat×En)->Prop)(g:ak):Prop:=Zx/\mn l/\ ∀(a_2:az×Int),a_2=vv l UT->bif Prod.snd a==(200:Int) then bif Prod.snd a_2==(0:Int) then ae (P.d (D.bool (Prod.fst (Prod.fst a_2)==jB g&&(Prod.snd (Prod.fst a_2)==jA g&&true))),[]) else Z4 ae else Z4 ae
theorem qjc(m:List cC)(r:Int)(ae:P×List (Nat×En)->Prop):(Zea/\Zx/\ ∃(bZ:List cC),Zeg m bZ/\Zx/\zj bZ/\(bif Zde r then bif Zeh r then∃(l:List ak) (cB:Int),P.d (D.sl 7 [])::Zei r=LG l cB/\Zx/\mn l/\ ∀(g:ak) (e:Int),Zec g l cB->Zed e l cB->bif e !=(0:Int) then Z4 ae else∃(l:List ak) (vn:Int),P.d (D.sl 7 (Zer g))::Zei r=LG l vn/\Zx/\mn l/\ ∀(a:az×Int),a=q7 l vn-> ∃(l:List ak) (UT:Int),P.d (D.sl 7 (Zer g))::Zei r=LG l UT/\Zes l UT a ae g else False else False)/\ ∀(g:List ak),BV bZ g->bif Zde r then bif Zeh r then∃(l:List ak) (cB:Int),dq g::Zei r=LG l cB/\Zx/\mn l/\ ∀(aQ:ak) (e:Int),Zec aQ l cB->Zed e l cB->bif e !=(0:Int) then Z4 ae else bif Zdy g then bif Zdz g&&aM (0+fH g+List.length (Zer aQ)) 88 then∃(l:List ak) (vn:Int),Zet g aQ r l vn/\Zx/\mn l/\ ∀(a:az×Int),a=q7 l vn-> ∃(l:List ak) (UT:Int),Zet g aQ r l UT/\Zes l UT a ae aQ else False else False else False else False)=(aK [(9,zl),(11,qeG),(12,hHn),(19,vF),(17,vG)] [] 7 [.d (.sl 6 (m.map wk)),.d (uE r)] []) ae:=by kernel_rfl
theorem BX{n:Int}(hw:(Lit.int .u8 n).wf=true):0<=n/\n<=255:=by
 have h1:IntKind.min .u8=0:=by decide
 have h2:IntKind.max .u8=255:=by decide
 replace hw:(decide (IntKind.min .u8<=n)&&decide (n<=IntKind.max .u8))=true:=hw
 rw[h1,h2,zab,zah,zah] at hw;exact hw
theorem qhx{m:Nat}{x:D}(h:Ab PR (m+1) 5 x): ∃n,x=uE n/\0<=n/\n<=255:=by obtain⟨n,rfl,hw⟩:=Qn Tryz.underlying5 h;exact⟨n,rfl,BX hw⟩
theorem qhy{m:Nat}{x:D}(h:Ab PR (m+3) 41 x): ∃d:cC,x=wk d/\DS d:=by
 obtain⟨cs,rfl,hl,hf⟩:=Fg (k:=6) Tryz.underlying41 (by kernel_rfl) h;obtain⟨a,b,c,d,e,f,rfl⟩: ∃a b c d e f,cs=[a,b,c,d,e,f]:=by
  match cs,hl with
  | [a,b,c,d,e,f],_=>exact⟨a,b,c,d,e,f,rfl⟩
 have z0:PR.cellsOf 5=1:=by kernel_rfl
 have z3:PR.cellsOf 4=1:=by kernel_rfl
 have g0:=hf _ (zbP ..);have g1:=hf _ (zaH _ (zbP ..));have g2:=hf _ (zaH _ (zaH _ (zbP ..)));have g3:=hf _ (zaH _ (zaH _ (zaH _ (zbP ..))));have g4:=hf _ (zaH _ (zaH _ (zaH _ (zaH _ (zbP ..)))));have g5:=hf _ (zaH _ (zaH _ (zaH _ (zaH _ (zaH _ (zbP ..))))));simp only[z0,z3,zcn,List.drop_succ_cons,List.take_succ_cons,List.take_zero] at g0 g1 g2 g3 g4 g5;obtain⟨x0,rfl,h0⟩:=sR Tryz.underlying5 g0;obtain⟨x1,rfl,h1⟩:=sR Tryz.underlying5 g1;obtain⟨x2,rfl,h2⟩:=sR Tryz.underlying5 g2;obtain⟨x3,rfl,h3⟩:=sR Tryz.underlying5 g3;obtain⟨x4,rfl,h4⟩:=sR Tryz.underlying5 g4;obtain⟨x5,rfl⟩:=Qo Tryz.underlying4 g5;exact⟨⟨x0,x1,x2,x3,x4,x5⟩,rfl,BX h0,BX h1,BX h2,BX h3,BX h4⟩
theorem qeW{m:Nat}{x:D}(h:Ab PR (m+4) 26 x): ∃l:List cC,x= .sl 6 (l.map wk)/\zj l:=by
 obtain⟨es,rfl,hl,hy⟩:=Ir (k:=6) Tryz.underlying26 (by kernel_rfl) h;obtain⟨l,rfl,hq⟩:=BW wk _ DS (λy hy=>qhy hy) es hy;refine⟨l,rfl,?_,hq⟩;rw[zaa] at hl;have:maxLen<=9223372036854775807:=by decide
 exact zaI hl this
theorem BY{g:List ak}(h:bx 16 g){q:Int}(h1:1<=q)(h2:q<=16):pO (aI g) q=0/\vu (aI g) q=⟨(jD g+1,q),Bx g q+1,s6 g,(0,0),[]⟩:=by have e:=h.next (by decide) h1 h2;rw[h.right];refine⟨e,?_⟩;unfold vu;rw[zao e];rfl
theorem nc:bx 16 []:=Ui.1.le (by decide)
theorem DU{g:List ak}(h:bx 16 g)(k:Int):mn (g++[dO g k]):=by
 have hs:=(h.smS (by decide)).1;have hl:=h.len;have hv:(s6 g).length<=16:=Gh g;refine⟨by rw[zan,zcH];omega,λy hy=> ?_⟩;rcases zaE.1 hy with hy |hy
 ·exact hs.2 y hy
 rw[za0.1 hy];refine⟨λo ho=> ?_,by show 1<=9223372036854775807;decide,by show(s6 g).length<=1000000;omega⟩;rw[show o=qL (jD g+1,k) aB [110,101,119] false from za0.1 ho];exact⟨by simp[qL],by simp[qL],by simp[qL]⟩
section
variable{X:XF}
def hLw:br:=λps R ae=> ∃m r,ps=[.d (.sl 6 (m.map wk)),.d (uE r)]/\R=[]/\(zj m/\0<=r/\r<=255)/\ae (.d (.bool true),[])
variable(hX:XT X)
include hX
theorem qeX:FD X 7 hLw:=FD.mk (H:=[(9,zl),(11,qeG),(12,hHn),(19,vF),(17,vG)]) (hk:=[]) (by kernel_rfl) (.cons (Oe hX) (.cons qht (.cons qgy (.cons (LR hX) (.cons (LS hX) .nil))))) .nil (by
 intro ps R ae hh;obtain⟨m,r,rfl,rfl,⟨hm,hr⟩,hp⟩:=hh
 (rw[<-qjc];delta Zt Zv cW dq LG Zei fH ZdB Z2N yn Z7 Ra M8 Z3 Xn jy jz jA gO jB gQ Zer Zet Zdz Zdy Z4 Zx Zes Zed Zec Za Z9 Zeh Zde Zeg Zea)
 have hq:=tD hr.1 (show(0:Int)<4 by decide);generalize r.tmod 4=q at*
 refine⟨rfl,rfl,m,rfl,rfl,hm,ao (by omega) (ao (by omega) ⟨[],1+q,rfl,rfl,(nc.smS (by decide)).1,λh e hh he=> ?_⟩),λg hg=>ao (by omega) (ao (by omega) ⟨g,1+q,rfl,rfl,(hg.1.smS (by decide)).1,λh e hh he=> ?_⟩)⟩
 ·have hN:=BY nc (q:=1+q) (by omega) (by omega);have hU:=nc.LP (by decide) (k:=1+q) (by omega) (by omega);have hR:=nc.LO (by decide) (k:=1+q) (by omega) (by omega);rw[hN.1] at he;rw[hN.2] at hh;subst he hh;refine jq rfl ⟨[]++[dO [] (1+q)],1+q,rfl,rfl,DU nc _,λa ha=>⟨[]++[dO [] (1+q)],1+q,rfl,rfl,DU nc _,λb hb=> ?_⟩⟩;rw[hR] at ha;rw[hU] at hb;subst ha hb;refine gI rfl (gI rfl ?_);have:(1+q==1+q)=true:=zbl _;show ae (P.d (D.bool (((0:Int)+1==0+1)&&((1+q==1+q)&&true))),[]);rw[this];exact hp
 have hN:=BY hg.1 (q:=1+q) (by omega) (by omega);have hU:=hg.1.LP (by decide) (k:=1+q) (by omega) (by omega);have hR:=hg.1.LO (by decide) (k:=1+q) (by omega) (by omega);have hl:=hg.1.len;rw[hN.1] at he;rw[hN.2] at hh;subst he hh;have hEq:(g++[dO g (1+q)]).map aV=List.take (0+(g.map aV).length+1) (List.take (0+(g.map aV).length) ([]++g.map aV)++[aV (dO g (1+q))]):=by simp[zai]
 have hr1:aM g.length 88=true:=cp (by omega) (by omega);have hr2:aM (g.length+1) 88=true:=cp (by omega) (by omega);refine jq rfl (aq (by simp[hr1]) (aq (by simp[hr2]) ⟨g++[dO g (1+q)],1+q,by rw[hEq];rfl,rfl,DU hg.1 _,λa ha=>⟨g++[dO g (1+q)],1+q,by rw[hEq];rfl,rfl,DU hg.1 _,λb hb=> ?_⟩⟩));rw[hR] at ha;rw[hU] at hb;subst ha hb;refine gI rfl (gI rfl ?_);have e1:(jD g+1==jD g+1)=true:=zbl _;have e2:(1+q==1+q)=true:=zbl _;show ae (P.d (D.bool ((jD g+1==jD g+1)&&((1+q==1+q)&&true))),[]);rw[e1,e2];exact hp)
end
theorem qeY{X:XF}{f:Nat}(hd:FD X f hLw)(xs:List D)(h:pA PR 8 [26,5] xs): ∃lf k R,ff PR (IB X) lf k f (xs.map P.d) []=some (.d (.bool true),R):=by obtain⟨x,r,rfl,hx,h⟩:=fitAll_cons h;obtain⟨y,r,rfl,hy,h⟩:=fitAll_cons h;have e:=fitAll_nil h;subst e;obtain⟨l,rfl,hl⟩:=qeW hx;obtain⟨n,rfl,hn⟩:=qhx hy;obtain⟨lf,k,hr⟩:=hd.run (y:=(.d (.bool true),[])) ⟨l,n,rfl,rfl,⟨hl,hn⟩,rfl⟩;exact⟨lf,k,[],hr⟩
theorem U9(xs:List D)(h:pA PR 8 [26,5] xs): ∃lf k R,ff PR (IB LU) lf k 7 (xs.map P.d) []=some (.d (.bool true),R):=qeY (qeX qav) xs h
end Pi
