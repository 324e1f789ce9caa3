/- The texts Rm RmH Hi6 Hi6H Ro Vw2 Vw2H RoH ElP GnP Gn2 Gn2H A6 Et Gn1 Gn1H Gn3 Hi7 Hi7H W20 Gn3H EtH Eu TrE EuH Ls LsF LsH Lt GnF LtH Tn. -/
import Derived.Test.YtngoddkencoalaaGreatDoorEbv
import Derived.Lib.LaidTab
import Derived.Lib.LaidU8T
import Derived.Stop.LaidErr
import Derived.Shelf.Vars
import Derived.Lay
import Derived.Deep.DeepHandedRow
import Derived.SevenTiedAt
import Derived.ProofKit
import Derived.Test.YtngoddkencoalaaGreatDoorRows
namespace Pi
open Go Go.Proofs
set_option maxRecDepth 100000
set_option maxHeartbeats 0
abbrev md3(l:List ak)(p o:List Pl)(i:Int):S:=⟨78,[(0,bp l),(1,eL p),(5,.sl 0 0 o.length),(6,iD i)],[(0,⟨0,none,qO false o⟩)]⟩
abbrev md6(l:List ak)(p o:List Pl)(i j:Int):S:=⟨78,[(0,bp l),(1,eL p),(5,.sl 0 0 o.length),(6,iD i),(7,iD j)],[(0,⟨0,none,qO false o⟩)]⟩
abbrev md9(l:List ak)(p o:List Pl)(i j k:Int):S:=⟨78,[(0,bp l),(1,eL p),(5,.sl 0 0 o.length),(6,iD i),(7,iD j),(8,iD k)],[(0,⟨0,none,qO false o⟩)]⟩
def I4(o:List Pl):Nat×P:=(5,r5 o)
def jV(l:List ak)(j:Int)(k:Int):D:=D.nth (D.dS (D.ar (gT l j) 6)) (Zt k)
def Zb0(p:List Pl)(i:Int)(l:List ak)(j:Int)(k:Int):List D:=[D.agg [K4 p i,K3 p i,K2 p i,D.int .i64 (D.aj (D.ar (oh p i) 3)),D.int .i64 (D.aj (D.ar (oh p i) 4)),D.int .i64 (D.aj (D.ar (oh p i) 5)),D.str (D.cK (D.ar (oh p i) 6)),D.bool (D.eG (D.ar (jV l j k) 8))]]
def Fq(l:List ak)(j:Int)(k:Int):Int:=D.aj (D.ar (jV l j k) 0)
noncomputable def Fs(l:List ak)(j:Int)(k:Int):Bool:=cw PR (54:TypeId) (jV l j k)
def Ri(l:List ak)(j:Int):Int:=(↑(List.length (D.dS (D.ar (gT l j) 6))):Int)
def Ft(k:Int)(l:List ak)(j:Int):Bool:=decide ((0:Int)<=k/\k<Ri l j)
def LL(k:Int)(l:List ak)(j:Int):Bool:=decide (k<Ri l j)
theorem qdP(l:List ak)(p o:List Pl)(i j k:Int)(ae:PX×S->Prop):(ob (iC j l) (ob (dM l j) (bif LL k l j then ob (iC j l) (ob (dM l j) (ob (Ft k l j) (ob (Fs l j k) (bif Fq l j k==(0:Int) then ob (iC j l) (ob (dM l j) (ob (Ft k l j) (ob (Fs l j k) (ob (C9 i p) (ob (pV p i) (bif D.aj (D.ar (jV l j k) 1)==D.aj (D.ar (oh p i) 0)&&(D.aj (D.ar (jV l j k) 2)==D.aj (D.ar (oh p i) 1)&&true)&&(D.aj (D.ar (jV l j k) 3)==D.aj (D.ar (oh p i) 2)&&true) then ob (C9 i p) (ob (pV p i) (ob (iC j l) (ob (dM l j) (ob (Ft k l j) (ob (Fs l j k) (ob (Nat.ble (jR o) (rb o)&&aI (jR o+List.length (Zb0 p i l j k)) 72) (ob (Zw k) (ae (PX.normal,S.mk 78 (de l::pR p::(5,P.sl 0 0 (jR o+List.length (Zb0 p i l j k)))::ZS i::o5 j::pW k) [(0,En.mk 0 none (Obj.arr (104:TypeId) false (List.take (jR o) (gh o)++Zb0 p i l j k)))]))))))))) else ob (Zw k) (ae (PX.normal,S.mk 78 (de l::pR p::I4 o::ZS i::o5 j::pW k) (ux o))))))))) else ob (Zw k) (ae (PX.normal,S.mk 78 (de l::pR p::I4 o::ZS i::o5 j::pW k) (ux o))))))) else ae (PX.exit 4,S.mk 78 [de l,pR p,I4 o,ZS i,o5 j] (ux o)))))=(aD [] [] 54 9 (md9 l p o i j k)) ae:=by kernel_rfl
def qgP:S->K (PX×S):=λs ae=> ∃(l:List ak) (p o:List Pl) (i j:Int) (hi:i.toNat<p.length) (hj:j.toNat<l.length),s=md9 l p o i j 0/\((0<=i/\0<=j/\p.length<=1000)/\l.length<=1000000/\o.length<=1000/\l[j.toNat].ops.length<=200)/\ ∀o',o'=o++mdG p[i.toNat] l[j.toNat]->ae (.exit 4,md6 l p o' i j)
theorem qdQ(l:List ak)(p o:List Pl)(i j:Int)(ae:PX×S->Prop):(bif nv j l then∃(au:List ak) (k8:List Pl) (aU:List Pl) (bb:Int) (j_1:Int) (hi:Int.toNat bb<List.length k8) (hj:Int.toNat j_1<List.length au),S.mk 78 (de l::pR p::I4 o::ZS i::o5 j::tu) (ux o)=S.mk 78 (de au::pR k8::I4 aU::ZS bb::o5 j_1::tu) (ux aU)/\(((0:Int)<=bb/\(0:Int)<=j_1/\Ij k8)/\iR au/\Ij aU/\List.length (ak.ops au[Int.toNat j_1])<=200)/\ ∀(o':List Pl),o'=aU++mdG k8[Int.toNat bb] au[Int.toNat j_1]->ob (Zw j_1) (ae (PX.normal,S.mk 78 (de au::pR k8::I4 o'::ZS bb::ZT j_1) (ux o'))) else ae (PX.exit 2,S.mk 78 (de l::pR p::I4 o::Bg i) (ux o)))=(aD [] [(9,ah (aK 54 9) qgP)] 54 6 (md6 l p o i j)) ae:=by kernel_rfl
def qgQ:S->K (PX×S):=λs ae=> ∃(l:List ak) (p o:List Pl) (i:Int) (hi:i.toNat<p.length),s=md6 l p o i 0/\((0<=i/\p.length<=1000)/\l.length<=1000000/\o.length<=999/\(∀g∈l,cy g=true)/\(l.map (·.s)).Nodup)/\ ∀o',o'=o++Af l p[i.toNat]->ae (.exit 2,md3 l p o' i)
def Zb2(au:List ak):Prop:= ∀(g:ak),g∈au->cy g=true
theorem qdR(l:List ak)(p o:List Pl)(i:Int)(ae:PX×S->Prop):(bif Nh i p then∃(au:List ak) (k8:List Pl) (aU:List Pl) (bb:Int) (hi:Int.toNat bb<List.length k8),S.mk 78 (de l::pR p::I4 o::ZS i::pU) (ux o)=S.mk 78 (de au::pR k8::I4 aU::ZS bb::pU) (ux aU)/\(((0:Int)<=bb/\Ij k8)/\iR au/\jR aU<=999/\Zb2 au/\List.Nodup (List.map (λ(x:ak)=>ak.s x) au))/\ ∀(o':List Pl),o'=aU++Af au k8[Int.toNat bb]->ob (Zw bb) (ae (PX.normal,S.mk 78 (de au::pR k8::I4 o'::ZL bb) (ux o'))) else ae (PX.exit 0,S.mk 78 [I4 o] (ux o)))=(aD [] [(6,ah (aK 54 6) qgQ)] 54 3 (md3 l p o i)) ae:=by kernel_rfl
def qgR:S->K (PX×S):=λs ae=> ∃(l:List ak) (p:List Pl),s=md3 l p [] 0/\(p.length<=1000/\l.length<=1000000/\(∀g∈l,cy g=true)/\(l.map (·.s)).Nodup)/\ ∀o,o=Io l p->ae (.exit 0,⟨78,[(5,.sl 0 0 o.length)],[(0,⟨0,none,qO false o⟩)]⟩)
def Zb4(k8:List Pl)(au:List ak):Prop:=Ij k8/\iR au/\Zb2 au/\List.Nodup (List.map (λ(x:ak)=>ak.s x) au)
def Zb3(au:List ak)(k8:List Pl):S:=S.mk 78 (de au::pR k8::Vy) [(0,ya)]
theorem qlT(l:List ak)(p:List Pl)(ae:P×List (Nat×En)->Prop):(∃(au:List ak) (k8:List Pl),Zb3 l p=Zb3 au k8/\Zb4 k8 au/\ ∀(o:List Pl),o=Io au k8->ae (r5 o,ux o))=(aJ [] [(3,ah (aK 54 3) qgR)] 54 [bp l,eL p] []) ae:=by kernel_rfl
def Wh:bg:=λps R ae=> ∃l p,ps=[bp l,eL p]/\R=[]/\(p.length<=1000/\l.length<=1000000/\(∀g∈l,cy g=true)/\(l.map (·.s)).Nodup)/\ ∀o,o=Io l p->ae (.sl 0 0 o.length,[(0,⟨0,none,qO false o⟩)])
abbrev ofR(m:List ak)(o:List ay)(nh nl:Nat)(A P H L:List D):List (Nat×En):=[(0,⟨0,none,pb true m⟩),(1,⟨0,none,.box 69 [.sl 2 0 0,.sl 3 0 0,.sl 4 0 0,.sl 5 0 0,.sl 6 0 0]⟩),(2,⟨0,none,mL false []⟩),(3,⟨0,none,qO false []⟩),(4,⟨0,none,qjp false []⟩),(5,⟨0,none,qjp false []⟩),(6,⟨0,none,.arr 72 false []⟩),(7,⟨0,none,.box 69 [.sl 8 0 o.length,.sl 9 0 0,.sl 10 0 nh,.sl 11 0 nl,.sl 12 0 0]⟩),(8,⟨0,none,mL false o⟩),(9,⟨0,none,qO false []⟩),(10,⟨0,none,.arr 106 false H⟩),(11,⟨0,none,.arr 106 false L⟩),(12,⟨0,none,.arr 72 false []⟩),(13,⟨0,none,.arr 50 false A⟩),(14,⟨0,none,.arr 104 false P⟩)]
abbrev of7(m:List ak)(o:List ay)(na np nh nl:Nat)(A P H L:List D)(i:Int):S:=⟨140,[(0,.sl 0 0 m.length),(2,.ref 1 0 0),(3,.ref 7 0 0),(4,.sl 13 0 na),(5,.sl 14 0 np),(6,iD i)],ofR m o nh nl A P H L⟩
abbrev Wi(m:List ak)(o:List ay)(na np nh nl:Nat)(A P H L:List D)(i:Int)(on:Bool)(k:Int):S:=⟨140,[(0,.sl 0 0 m.length),(2,.ref 1 0 0),(3,.ref 7 0 0),(4,.sl 13 0 na),(5,.sl 14 0 np),(6,iD i),(7,.d (.bool on)),(8,iD k)],ofR m o nh nl A P H L⟩
abbrev qgS(m:List ak)(o:List ay)(y:bc)(na np nh nl:Nat)(A P H L:List D)(i:Int)(on:Bool)(k j:Int):S:=⟨140,[(0,.sl 0 0 m.length),(2,.ref 1 0 0),(3,.ref 7 0 0),(4,.sl 13 0 na),(5,.sl 14 0 np),(6,iD i),(7,.d (.bool on)),(8,iD k),(9,.ref 15 0 0),(10,iD j)],ofR m o nh nl A P H L++[(15,⟨0,none,qjI y⟩)]⟩
def Qn:Nat×En:=(12,QZ)
def Qo(H:List D):Nat×En:=(10,jA H)
def I5:Nat×En:=(9,ya)
def I6(o:List ay):Nat×En:=(8,pc o)
def Zbp(o:List ay)(H:List D)(L:List D)(A:List D)(P:List D):List (Nat×En):=[I6 o,I5,Qo H,(11,jA L),Qn,(13,Dv A),(14,Du P)]
def Wj:List P:=[P.sl 12 0 0]
def Wk:P:=P.sl 9 0 0
def Qp(o:List ay)(nh:Nat)(nl:Nat):Nat×En:=(7,En.mk 0 none (Obj.box (69:TypeId) (P.sl 8 0 (dv o)::Wk::P.sl 10 0 nh::P.sl 11 0 nl::Wj)))
def Gc:Nat×En:=(6,QZ)
def Gd:En:=En.mk 0 none (Obj.arr (106:TypeId) false [])
def Ge:Nat×En:=(5,Gd)
def Gf:Nat×En:=(4,Gd)
def Gg:Nat×En:=(3,ya)
def xb:Nat×En:=(2,vX)
def Gh:Nat×En:=(1,En.mk 0 none (Obj.box (69:TypeId) [P.sl 2 0 0,P.sl 3 0 0,P.sl 4 0 0,P.sl 5 0 0,P.sl 6 0 0]))
def Gj(m:List ak):Nat×En:=(0,En.mk 0 none (Obj.arr (34:TypeId) true (cg m)))
def LM(m:List ak)(o:List ay)(nh:Nat)(nl:Nat)(H:List D)(L:List D)(A:List D)(P:List D):List (Nat×En):=Gj m::Gh::xb::Gg::Gf::Ge::Gc::Qp o nh nl::Zbp o H L A P
def Zbn(A:List D)(P:List D)(y:bc):List (Nat×En):=[Qn,(13,Dv A),(14,Du P),(15,Yz y)]
def Gk(np:Nat):Nat×P:=(5,P.sl 14 0 np)
def Gl(na:Nat):Nat×P:=(4,P.sl 13 0 na)
def B7:Nat×P:=(3,P.ref 7 0 0)
def B8:Nat×P:=(2,iN)
theorem Wl(m:List ak)(o:List ay)(y:bc)(na np nh nl:Nat)(A P H L:List D)(i:Int)(on:Bool)(k j:Int)(ae:PX×S->Prop):(bif decide (j<Iy y) then bif on then ob (decide ((0:Int)<=j/\j<Iy y)) (ob (cw PR (30:TypeId) (Z9K y j)) (ob (AG nl L&&aI (nl+List.length (YA y j)) 40) (ob (Zw j) (ae (PX.normal,S.mk 140 [pB m,B8,B7,Gl na,Gk np,ZS i,uy on,rk k,(9,Pi.P.ref 15 0 0),(10,Pi.P.d (ZA j))] (Gj m::Gh::xb::Gg::Gf::Ge::Gc::(7,En.mk 0 none (Obj.box (69:TypeId) (Pi.P.sl 8 0 (dv o)::Wk::Pi.P.sl 10 0 nh::Pi.P.sl 11 0 (nl+List.length (YA y j))::Wj)))::I6 o::I5::Qo H::(11,En.mk 0 none (Obj.arr (106:TypeId) false (List.take nl L++YA y j)))::Zbn A P y)))))) else ae (PX.exit 4,S.mk 140 (pB m::B8::B7::Gl na::Gk np::ZS i::uy on::JJ k) (LM m o nh nl H L A P)) else ae (PX.exit 4,S.mk 140 (pB m::B8::B7::Gl na::Gk np::ZS i::uy on::JJ k) (LM m o nh nl H L A P)))=(aD [] [] 32 20 (qgS m o y na np nh nl A P H L i on k j)) ae:=by kernel_rfl
def Wm:S->K (PX×S):=λs ae=> ∃m o y na np nh nl A P H L i on k,s=qgS m o y na np nh nl A P H L i on k 0/\(y.cp.length<=200/\nl=L.length/\nl<=100000000000)/\ ∀cL L',uK on y nl L cL L'->ae (.exit 4,Wi m o na np nh cL A P H L' i on k)
def Zbt(m:List ak)(i:Int)(k:Int):D:=D.int .i64 (D.aj (D.ar (jV m i k) 3))
def Zbs(m:List ak)(i:Int)(k:Int):D:=D.int .i64 (D.aj (D.ar (jV m i k) 2))
def Zbr(m:List ak)(i:Int)(k:Int):D:=D.int .i64 (D.aj (D.ar (jV m i k) 1))
def ZbC(m:List ak)(i:Int)(k:Int):List (Nat×En):=[(15,En.mk 0 none (Obj.box (54:TypeId) [P.d (D.int .i64 (Fq m i k)),P.d (Zbr m i k),P.d (Zbs m i k),P.d (Zbt m i k),P.d (D.int .i64 (D.aj (D.ar (jV m i k) 4))),P.d (D.int .i64 (D.aj (D.ar (jV m i k) 5))),P.d (D.int .i64 (D.aj (D.ar (jV m i k) 6))),P.d (D.str (D.cK (D.ar (jV m i k) 7))),P.d (D.bool (D.eG (D.ar (jV m i k) 8))),P.d (D.sl 2 (D.dS (D.ar (jV m i k) 9))),P.d (D.int .i64 (D.aj (D.ar (jV m i k) 10))),P.d (D.int .i64 (D.aj (D.ar (jV m i k) 11))),P.d (D.int .i64 (D.aj (D.ar (jV m i k) 12))),P.d (D.int .i64 (D.aj (D.ar (jV m i k) 13))),P.d (D.int .i64 (D.aj (D.ar (jV m i k) 14))),P.d (D.int .i64 (D.aj (D.ar (jV m i k) 15))),P.d (D.str (D.cK (D.ar (jV m i k) 16))),P.d (D.sl 3 (D.dS (D.ar (jV m i k) 17)))]))]
def Zbw(bb:Int)(bG:Bool)(bX:Int):List (Nat×P):=[ZS bb,uy bG,rk bX,(9,P.ref 15 0 0),(10,P.d Z7)]
def Zbx(bz:List ak)(kR:Nat)(kS:Nat)(bb:Int)(bG:Bool)(bX:Int):List (Nat×P):=pB bz::B8::B7::Gl kR::Gk kS::Zbw bb bG bX
def ZbG(m:List ak)(na:Nat)(np:Nat)(i:Int)(on:Bool)(k:Int)(o:List ay)(nh:Nat)(nl:Nat)(H:List D)(L:List D)(A:List D)(P:List D)(ae:PX×S->Prop):Prop:= ∃(bz:List ak) (aU:List ay) (y:bc) (kR:Nat) (kS:Nat) (mn:Nat) (gW:Nat) (Bk:List D) (Bl:List D) (Bm:List D) (rG:List D) (bb:Int) (bG:Bool) (bX:Int),S.mk 140 (Zbx m na np i on k) (Gj m::Gh::xb::Gg::Gf::Ge::Gc::Qp o nh nl::I6 o::I5::Qo H::(11,jA L)::Qn::(13,Dv A)::(14,Du P)::ZbC m i k)=S.mk 140 (Zbx bz kR kS bb bG bX) (Gj bz::Gh::xb::Gg::Gf::Ge::Gc::Qp aU mn gW::I6 aU::I5::Qo Bm::(11,jA rG)::Zbn Bk Bl y)/\(JL y/\gW=List.length rG/\gW<=100000000000)/\ ∀(cL:Nat) (L':List D),uK bG y gW rG cL L'->ob (Zw bX) (ae (PX.normal,S.mk 140 (pB bz::B8::B7::Gl kR::Gk kS::ZS bb::uy bG::pW bX) (LM bz aU mn cL Bm L' Bk Bl)))
def Zbv(m:List ak)(i:Int)(k:Int):List D:=[D.agg [Zbr m i k,Zbs m i k,Zbt m i k,pA m i,pz m i]]
def ZbB(nh:Nat)(H:List D)(m:List ak)(i:Int)(k:Int):Nat×En:=(10,En.mk 0 none (Obj.arr (106:TypeId) false (List.take nh H++Zbv m i k)))
def ZbA(o:List ay)(nh:Nat)(m:List ak)(i:Int)(k:Int)(nl:Nat):Nat×En:=(7,En.mk 0 none (Obj.box (69:TypeId) (P.sl 8 0 (dv o)::Wk::P.sl 10 0 (nh+List.length (Zbv m i k))::P.sl 11 0 nl::Wj)))
def Zby(ae:PX×S->Prop):S->Prop:=λ(s0:S)=> ∃(bz:List ak) (aU:List ay) (y:bc) (kR:Nat) (kS:Nat) (mn:Nat) (gW:Nat) (Bk:List D) (Bl:List D) (Bm:List D) (rG:List D) (bb:Int) (bG:Bool) (bX:Int),s0=S.mk 140 (Zbx bz kR kS bb bG bX) (Gj bz::Gh::xb::Gg::Gf::Ge::Gc::Qp aU mn gW::I6 aU::I5::Qo Bm::(11,jA rG)::Zbn Bk Bl y)/\(JL y/\gW=List.length rG/\gW<=100000000000)/\ ∀(cL:Nat) (L':List D),uK bG y gW rG cL L'->ob (Zw bX) (ae (PX.normal,S.mk 140 (pB bz::B8::B7::Gl kR::Gk kS::ZS bb::uy bG::pW bX) (LM bz aU mn cL Bm L' Bk Bl)))
noncomputable def ZbH(on:Bool)(m:List ak)(i:Int)(k:Int)(nh:Nat)(H:List D)(na:Nat)(np:Nat)(o:List ay)(nl:Nat)(L:List D)(A:List D)(P:List D)(ae:PX×S->Prop):Prop:=bif on then bif Fq m i k !=(2:Int) then ob (u9 i m) (ob (sT i m) (ob (dM m i) (ob (AG nh H&&aI (nh+List.length (Zbv m i k)) 40) (Zby ae (S.mk 140 (Zbx m na np i on k) (Gj m::Gh::xb::Gg::Gf::Ge::Gc::ZbA o nh m i k nl::I6 o::I5::ZbB nh H m i k::(11,jA L)::Qn::(13,Dv A)::(14,Du P)::ZbC m i k)))))) else ZbG m na np i on k o nh nl H L A P ae else ZbG m na np i on k o nh nl H L A P ae
def Zbu(m:List ak)(i:Int)(k:Int):List D:=[D.agg [Zbr m i k,Zbs m i k,Zbt m i k,D.int .i64 (D.aj (D.ar (jV m i k) 4)),D.int .i64 (D.aj (D.ar (jV m i k) 5)),D.int .i64 (D.aj (D.ar (jV m i k) 6)),D.str (D.cK (D.ar (jV m i k) 7)),D.bool (D.eG (D.ar (jV m i k) 8))]]
def ZbD(L:List D)(na:Nat)(A:List D)(m:List ak)(i:Int)(k:Int)(np:Nat)(P:List D):List (Nat×En):=(11,jA L)::Qn::(13,En.mk 0 none (Obj.arr (50:TypeId) false (List.take na A++[D.agg (pA m i::pz m i::Zl k)])))::(14,En.mk 0 none (Obj.arr (104:TypeId) false (List.take np P++Zbu m i k)))::ZbC m i k
def Zbz(m:List ak)(na:Nat)(i:Int)(k:Int)(np:Nat)(on:Bool):List (Nat×P):=pB m::B8::B7::(4,P.sl 13 0 (na+List.length [D.agg (pA m i::pz m i::Zl k)]))::(5,P.sl 14 0 (np+List.length (Zbu m i k)))::Zbw i on k
def ZbE(m:List ak)(na:Nat)(i:Int)(k:Int)(np:Nat)(on:Bool)(o:List ay)(nh:Nat)(nl:Nat)(H:List D)(L:List D)(A:List D)(P:List D)(ae:PX×S->Prop):Prop:= ∃(bz:List ak) (aU:List ay) (y:bc) (kR:Nat) (kS:Nat) (mn:Nat) (gW:Nat) (Bk:List D) (Bl:List D) (Bm:List D) (rG:List D) (bb:Int) (bG:Bool) (bX:Int),S.mk 140 (Zbz m na i k np on) (Gj m::Gh::xb::Gg::Gf::Ge::Gc::Qp o nh nl::I6 o::I5::Qo H::ZbD L na A m i k np P)=S.mk 140 (Zbx bz kR kS bb bG bX) (Gj bz::Gh::xb::Gg::Gf::Ge::Gc::Qp aU mn gW::I6 aU::I5::Qo Bm::(11,jA rG)::Zbn Bk Bl y)/\(JL y/\gW=List.length rG/\gW<=100000000000)/\ ∀(cL:Nat) (L':List D),uK bG y gW rG cL L'->ob (Zw bX) (ae (PX.normal,S.mk 140 (pB bz::B8::B7::Gl kR::Gk kS::ZS bb::uy bG::pW bX) (LM bz aU mn cL Bm L' Bk Bl)))
noncomputable def ZbF(i:Int)(m:List ak)(na:Nat)(A:List D)(k:Int)(np:Nat)(P:List D)(on:Bool)(nh:Nat)(H:List D)(o:List ay)(nl:Nat)(L:List D)(ae:PX×S->Prop):Prop:=ob (u9 i m) (ob (sT i m) (ob (dM m i) (ob (AG na A&&aI (na+List.length [D.agg (pA m i::pz m i::Zl k)]) 24) (ob (AG np P&&aI (np+List.length (Zbu m i k)) 72) (bif on then bif Fq m i k !=(2:Int) then ob (u9 i m) (ob (sT i m) (ob (dM m i) (ob (AG nh H&&aI (nh+List.length (Zbv m i k)) 40) (Zby ae (S.mk 140 (Zbz m na i k np on) (Gj m::Gh::xb::Gg::Gf::Ge::Gc::ZbA o nh m i k nl::I6 o::I5::ZbB nh H m i k::ZbD L na A m i k np P)))))) else ZbE m na i k np on o nh nl H L A P ae else ZbE m na i k np on o nh nl H L A P ae)))))
theorem Wn(m:List ak)(o:List ay)(na np nh nl:Nat)(A P H L:List D)(i:Int)(on:Bool)(k:Int)(ae:PX×S->Prop):(ob (u9 i m) (ob (sT i m) (ob (dM m i) (bif LL k m i then ob (u9 i m) (ob (sT i m) (ob (dM m i) (ob (Ft k m i) (ob (Fs m i k) (bif Fq m i k==(0:Int) then ZbF i m na A k np P on nh H o nl L ae else bif Fq m i k==(1:Int) then bif on then ZbF i m na A k np P on nh H o nl L ae else ZbH on m i k nh H na np o nl L A P ae else ZbH on m i k nh H na np o nl L A P ae))))) else ae (PX.exit 2,S.mk 140 (pB m::B8::B7::Gl na::Gk np::Bg i) (LM m o nh nl H L A P))))))=(aD [] [(20,ah (aK 32 20) Wm)] 32 11 (Wi m o na np nh nl A P H L i on k)) ae:=by kernel_rfl
def Wo:S->K (PX×S):=λs ae=> ∃(m:List ak) (o:List ay) (na np nh nl:Nat) (A P H L:List D) (i:Int) (on:Bool) (t:Tl) (N:Nat) (hi:i.toNat<m.length),s=Wi m o na np nh nl A P H L i on 0/\(r8 t na np nh nl A P H L/\vM N t/\N<=300000000/\(0<=i/\m[i.toNat].ops.length<=200/\ ∀y∈m[i.toNat].ops,y.cp.length<=200))/\
 ∀pO pP pQ cL A' P' H' L',r8 (Ia on m[i.toNat].s m[i.toNat].ops t) pO pP pQ cL A' P' H' L'->ae (.exit 2,of7 m o pO pP pQ cL A' P' H' L' i)
def Fu(b:Bool)(l:List ay)(x:ay):Prop:=b=decide (x∈l)
theorem qdS(m:List ak)(o:List ay)(na np nh nl:Nat)(A P H L:List D)(i:Int)(ae:PX×S->Prop):(bif Ga i m then ob (u9 i m) (ob (sT i m) (ob (dM m i) (∃(l:List ay) (x:ay),w5 o::IJ m i=w5 l::jy x/\Bd o=Bd l/\kQ l/\ ∀(b:Bool),Fu b l x-> ∃(bz:List ak) (aU:List ay) (kR:Nat) (kS:Nat) (mn:Nat) (gW:Nat) (Bk:List D) (Bl:List D) (Bm:List D) (rG:List D) (bb:Int) (on:Bool) (t:Tl) (N:Nat) (hi:Int.toNat bb<List.length bz),S.mk 140 (pB m::B8::B7::Gl na::Gk np::ZS i::uy b::tu) (Gj m::Gh::xb::Gg::Gf::Ge::Gc::Qp o nh nl::Zbp l H L A P)=S.mk 140 (pB bz::B8::B7::Gl kR::Gk kS::ZS bb::uy on::tu) (LM bz aU mn gW Bm rG Bk Bl)/\(r8 t kR kS mn gW Bk Bl Bm rG/\vM N t/\N<=300000000/\(0:Int)<=bb/\List.length (ak.ops bz[Int.toNat bb])<=200/\ ∀(y:bc),y∈ak.ops bz[Int.toNat bb]->JL y)/\ ∀(pO pP pQ cL:Nat) (A' P' H' L':List D),r8 (Ia on (ak.s bz[Int.toNat bb]) (ak.ops bz[Int.toNat bb]) t) pO pP pQ cL A' P' H' L'->ob (Zw bb) (ae (PX.normal,S.mk 140 (pB bz::B8::B7::Gl pO::Gk pP::ZL bb) (LM bz aU pQ cL H' L' A' P')))))) else ae (PX.exit 0,S.mk 140 [pB m,B8,B7,Gl na,Gk np] (LM m o nh nl H L A P)))=(aD [(42,IV)] [(11,ah (aK 32 11) Wo)] 32 7 (of7 m o na np nh nl A P H L i)) ae:=by kernel_rfl
abbrev OfB:=Nat×Nat×Nat×Nat×List D×List D×List D×List D
structure OfP where
 m:List ak
 o:List ay
 y:bc
 na:Nat
 np:Nat
 nh:Nat
 A:List D
 P:List D
 H:List D
 i:Int
 on:Bool
 k:Int
 L:List D
structure OfQ where
 m:List ak
 o:List ay
 g:ak
 i:Int
 on:Bool
 t:Tl
 N:Nat
theorem Wp{x:Pl}{g:ak}{k:Nat}(h:k<g.ops.length):(g.ops.take (k+1)).flatMap (BX x)=(g.ops.take k).flatMap (BX x)++BX x g.ops[k]:=by rw[zae h,za9];simp
theorem Wq{x:Pl}{l:List ak}{j:Nat}(h:j<l.length):Af (l.take (j+1)) x=Af (l.take j) x++mdG x l[j]:=by unfold Af;rw[zae h,za9];simp
theorem Wr{l:List ak}{p:List Pl}{i:Nat}(h:i<p.length):Io l (p.take (i+1))=Io l (p.take i)++Af l p[i]:=by unfold Io;rw[zae h,za9];simp
theorem N4(x:Pl): ∀l:List bc,(l.flatMap (BX x)).length<=l.length
 | []=>by simp
 |a::r=>by have h1:=N4 x r;have h2:=Nt x a;rw[zbA,zah,zao];omega
section
variable{X:XF}
theorem qcr:LD X 54 9 (ah (aK 54 9) qgP):=LD.idx (H:=[]) (hk:=[]) (by kernel_rfl) (by kernel_rfl) .nil .nil
 (A:=List ak×List Pl×List Pl×Int×Int×Pl×ak) (B:=List Pl) (λa o k=>md9 a.1 a.2.1 o a.2.2.2.1 a.2.2.2.2.1 k) (λa=>a.2.2.2.2.2.2.ops.length)
 (λa k o=>((0<=a.2.2.2.1/\a.2.2.2.1<a.2.1.length/\0<=a.2.2.2.2.1/\a.2.2.2.2.1<a.1.length)/\D.nth (a.2.1.map eB) a.2.2.2.1.toNat=eB a.2.2.2.2.2.1/\D.nth (a.1.map aR) a.2.2.2.2.1.toNat=aR a.2.2.2.2.2.2/\a.2.2.1.length<=1000/\a.2.2.2.2.2.2.ops.length<=200)/\o=a.2.2.1++(a.2.2.2.2.2.2.ops.take k).flatMap (BX a.2.2.2.2.2.1))
 (λa z=>z=(.exit 4,md6 a.1 a.2.1 (a.2.2.1++mdG a.2.2.2.2.2.1 a.2.2.2.2.2.2) a.2.2.2.1 a.2.2.2.2.1))
 (by
  rintro⟨l,p,o0,i,j,x,g⟩ o k ae h0 tU du ⟨⟨hb,hx,hg,k9,lW⟩,ho⟩ hn aT;dsimp only at*
  (rw[<-qdP];delta gh JA ux jR r5 I4 ZA pW Zk Zm o5 ZS iG pR cg ct de Za Z9 Zw Zt gT jV oh K2 K3 K4 Zb0 rb pV C9 Fq Fs Ri Ft LL dM gi iC)
  rw[hx,hg];have u6:D.dS (D.ar (aR g) 6)=g.ops.map dC:=rfl;have e1:D.nth (g.ops.map dC) k.toNat=dC g.ops[k.toNat]:=ax _ _ _ du;have jS:=Wp (x:=x) du;have hlen:=N4 x (g.ops.take k.toNat);rw[zas] at hlen;have qmx:o.length<=1200:=by rw[ho,zah];omega
  rw[u6,e1];generalize g.ops[k.toNat]=y at*
  have u0:D.aj (D.ar (dC y) 0)=y.kind:=rfl;have v:(D.aj (D.ar (dC y) 1)==D.aj (D.ar (eB x) 0)&&(D.aj (D.ar (dC y) 2)==D.aj (D.ar (eB x) 1)&&true)&&(D.aj (D.ar (dC y) 3)==D.aj (D.ar (eB x) 2)&&true))=(y.node==x.1):=F6 y.node x.1;have ML:0<=j/\j<((l.map aR).length:Int):=by rw[zaa];exact⟨hb.2.2.1,hb.2.2.2⟩
  have dt:0<=i/\i<((p.map eB).length:Int):=by rw[zaa];exact⟨hb.1,hb.2.1⟩
  have Gm:0<=k/\k<((g.ops.map dC).length:Int):=by rw[zaa];exact⟨h0,tU⟩
  have pn:=fh g;have DV:=ij x;have sk:=IE y;rw[u0,v];refine ao ML (aq pn (bn Gm.2 (ao ML (aq pn (ao Gm (aq sk ?_))))));have bS: ¬(y.kind=0/\y.node=x.1)->o0++(g.ops.take (k.toNat+1)).flatMap (BX x)=o:=λh=>by
   rw[jS,ho];have:BX x y=[]:=by unfold BX;rw[zan h]
   rw[this,zaV]
  refine aA (λhk=>ao ML (aq pn (ao Gm (aq sk (ao dt (aq DV (aA (λuX=> ?_) λuX=>ao (by omega) (hn o ⟨⟨hb,hx,hg,k9,lW⟩,(bS (λhh=>by rw[hh.2] at uX;simp at uX)).symm⟩)))))))) λhk=>ao (by omega) (hn o ⟨⟨hb,hx,hg,k9,lW⟩,(bS (λhh=>by rw[hh.1] at hk;simp at hk)).symm⟩);have cv:o0++(g.ops.take (k.toNat+1)).flatMap (BX x)=o++[(x.1,x.2.1,x.2.2.1,y.dir)]:=by
   rw[jS,ho,zaM];have:BX x y=[(x.1,x.2.1,x.2.2.1,y.dir)]:=by unfold BX;rw[zap ⟨by simpa using hk,by simpa using uX⟩]
   rw[this]
  have t1:List.take o.length (o.map eB)++[eB (x.1,x.2.1,x.2.2.1,y.dir)]=(o++[(x.1,x.2.1,x.2.2.1,y.dir)]).map eB:=bO eB o _;have hy:=hn (o++[(x.1,x.2.1,x.2.2.1,y.dir)]) ⟨⟨hb,hx,hg,k9,lW⟩,cv.symm⟩;simp only[md9,qO,zah] at hy;rw[<-t1] at hy;refine ao dt (aq DV (ao ML (aq pn (ao Gm (aq sk (aq (c8 rfl (by rw[zaa]) (by omega) (by decide)) (ao (by omega) ?_)))))));exact hy)
 (by
  rintro⟨l,p,o0,i,j,x,g⟩ o k ae hk ⟨⟨hb,hx,hg,k9,lW⟩,ho⟩ aT;dsimp only at*
  (rw[<-qdP];delta gh JA ux jR r5 I4 ZA pW Zk Zm o5 ZS iG pR cg ct de Za Z9 Zw Zt gT jV oh K2 K3 K4 Zb0 rb pV C9 Fq Fs Ri Ft LL dM gi iC)
  rw[hx,hg];have u6:D.dS (D.ar (aR g) 6)=g.ops.map dC:=rfl;rw[u6];have ML:0<=j/\j<((l.map aR).length:Int):=by rw[zaa];exact⟨hb.2.2.1,hb.2.2.2⟩
  refine ao ML (aq (fh g) (jU (by rw[zaa];omega) (aT _ (λh=>by cases h) ?_)));rw[ho,zaj];rfl)
 (by rintro s ae ⟨l,p,o,i,j,hi,hj,rfl,⟨h1,h2,h3,h4⟩,hp⟩;refine⟨(l,p,o,i,j,p[i.toNat],l[j.toNat]),o,rfl,⟨⟨⟨h1.1,by show i<(p.length:Int);omega,h1.2.1,by show j<(l.length:Int);omega⟩,ax _ _ _ hi,ax _ _ _ hj,h3,h4⟩,by simp⟩,?_⟩;rintro z rfl;exact hp _ rfl)
theorem qcs:LD X 54 6 (ah (aK 54 6) qgQ):=LD.idx (H:=[]) (hk:=[(9,ah (aK 54 9) qgP)]) (by kernel_rfl) (by kernel_rfl) .nil (.cons qcr .nil)
 (A:=List ak×List Pl×List Pl×Int×Pl) (B:=List Pl) (λa o j=>md6 a.1 a.2.1 o a.2.2.2.1 j) (λa=>a.1.length)
 (λa j o=>((0<=a.2.2.2.1/\a.2.1.length<=1000)/\(∃hi:a.2.2.2.1.toNat<a.2.1.length,a.2.1[a.2.2.2.1.toNat]=a.2.2.2.2)/\a.1.length<=1000000/\a.2.2.1.length<=999/\(∀g∈a.1,cy g=true)/\(a.1.map (·.s)).Nodup)/\o=a.2.2.1++Af (a.1.take j) a.2.2.2.2)
 (λa z=>z=(.exit 2,md3 a.1 a.2.1 (a.2.2.1++Af a.1 a.2.2.2.2) a.2.2.2.1))
 (by
  rintro⟨l,p,o0,i,x⟩ o j ae h0 GG Dl ⟨⟨h1,⟨hi,hx⟩,h3,h4,h5,h6⟩,ho⟩ hn aT;dsimp only at*
  (rw[<-qdQ];delta Zk Zm ZS Bg ZA ZT Za Z9 Zw dn iR jR Ij gh JA ux Z7 tu o5 r5 I4 iG pR cg ct de gi nv)
  have jS:=Wq (x:=x) Dl;have h7:(Af (l.take j.toNat) x).length<=1:=(Nv x (λg hg=>h5 g (zba hg)) (h6.sublist ((zda _ _).map _))).1;have k9:o.length<=1000:=by rw[ho,zah];omega
  refine bn (by rw[zaa];exact GG) ⟨l,p,o,i,j,hi,Dl,rfl,⟨⟨h1.1,h0,h1.2⟩,h3,k9,uv (h5 _ (zaq Dl))⟩,λo' ff=>ao (by omega) (hn o' ⟨⟨h1,⟨hi,hx⟩,h3,h4,h5,h6⟩,?_⟩)⟩;rw[ff,ho,jS,hx,zaM])
 (by
  rintro⟨l,p,o0,i,x⟩ o j ae hj ⟨hc,ho⟩ aT;dsimp only at*
  (rw[<-qdQ];delta Zk Zm ZS Bg ZA ZT Za Z9 Zw dn iR jR Ij gh JA ux Z7 tu o5 r5 I4 iG pR cg ct de gi nv)
  refine jU (by rw[zaa];omega) (aT _ (λh=>by cases h) ?_);rw[ho,zaj])
 (by rintro s ae ⟨l,p,o,i,hi,rfl,⟨h1,h2,h3,h4,h5⟩,hp⟩;refine⟨(l,p,o,i,p[i.toNat]),o,rfl,⟨⟨h1,⟨hi,rfl⟩,h2,h3,h4,h5⟩,by simp[Af]⟩,?_⟩;rintro z rfl;exact hp _ rfl)
theorem qct:LD X 54 3 (ah (aK 54 3) qgR):=LD.idx (H:=[]) (hk:=[(6,ah (aK 54 6) qgQ)]) (by kernel_rfl) (by kernel_rfl) .nil (.cons qcs .nil)
 (A:=List ak×List Pl) (B:=List Pl) (λa o i=>md3 a.1 a.2 o i) (λa=>a.2.length)
 (λa i o=>(a.2.length<=1000/\a.1.length<=1000000/\(∀g∈a.1,cy g=true)/\(a.1.map (·.s)).Nodup)/\o=Io a.1 (a.2.take i))
 (λa z=>z=(.exit 0,⟨78,[(5,.sl 0 0 (Io a.1 a.2).length)],[(0,⟨0,none,qO false (Io a.1 a.2)⟩)]⟩))
 (by
  rintro⟨l,p⟩ o i ae h0 bK aQ ⟨⟨h1,h2,h3,h4⟩,ho⟩ hn aT;dsimp only at*
  (rw[<-qdR];delta ZA ZL Za Z9 Zw Zb2 jR dn iR Ij gh JA ux Z7 pU Zk Zm ZS r5 I4 iG pR cg ct de rb Nh)
  have jS:=Wr (l:=l) aQ;have h7:=uA h3 h4 (p.take i.toNat);rw[zas,<-ho] at h7;refine bn (by rw[zaa];exact bK) ⟨l,p,o,i,aQ,rfl,⟨⟨h0,h1⟩,h2,by omega,h3,h4⟩,λo' ff=>ao (by omega) (hn o' ⟨⟨h1,h2,h3,h4⟩,?_⟩)⟩;rw[ff,ho,jS])
 (by
  rintro⟨l,p⟩ o i ae hi ⟨hc,ho⟩ aT;dsimp only at*
  (rw[<-qdR];delta ZA ZL Za Z9 Zw Zb2 jR dn iR Ij gh JA ux Z7 pU Zk Zm ZS r5 I4 iG pR cg ct de rb Nh)
  refine jU (by rw[zaa];omega) (aT _ (λh=>by cases h) ?_);rw[ho,zaj])
 (by rintro s ae ⟨l,p,rfl,hc,hp⟩;refine⟨(l,p),[],rfl,⟨hc,by simp[Io]⟩,?_⟩;rintro z rfl;exact hp _ rfl)
theorem qgT:FD X 54 Wh:=FD.mk (H:=[]) (hk:=[(3,ah (aK 54 3) qgR)]) (by kernel_rfl) .nil (.cons qct .nil) (by
 intro ps R ae hh;obtain⟨l,p,rfl,rfl,hc,hp⟩:=hh
 (rw[<-qlT];delta gh JA ux jR r5 Zb2 dn iR Ij Zb4 ya Z7 JE ZY Vy iG pR cg ct de Zb3)
 exact⟨l,p,rfl,hc,λo ho=>hp o ho⟩)
theorem Ws:LD X 32 20 (ah (aK 32 20) Wm):=LD.idx (H:=[]) (hk:=[]) (by kernel_rfl) (by kernel_rfl) .nil .nil
 (A:=OfP) (B:=Nat×List D) (λa b j=>qgS a.m a.o a.y a.na a.np a.nh b.1 a.A a.P a.H b.2 a.i a.on a.k j) (λa=>a.y.cp.length)
 (λa j b=>(a.y.cp.length<=200/\a.L.length<=100000000000)/\b.1=b.2.length/\b.2=a.L++(if a.on=true then(a.y.cp.take j).map (λs=>iH (a.y.node,s)) else []))
 (λa x=> ∃cL L',uK a.on a.y a.L.length a.L cL L'/\x=(.exit 4,Wi a.m a.o a.na a.np a.nh cL a.A a.P a.H L' a.i a.on a.k))
 (by
  rintro a ⟨nl,L⟩ j ae h0 GG Dl ⟨⟨hd,hL⟩,tf,LK⟩ hn ho;dsimp only at*
  (rw[<-Wl];delta Du Dv QZ Qn jA Qo ya I5 dq pc I6 Zbp Wj Wk dv Qp Gc Gd Ge Gf Gg vX xb Gh cg Gj LM Zk Zm rk JJ UP xv xw xx A1 BY A2 BZ B0 yf A3 A4 A5 A6 A7 vQ vR vS xy Yz Zbn ZA dV uy ZS Gk Gl B7 iN B8 dn lZ pB Za Z9 Zw Zt Z9K YA AG Iy)
  have e1:D.nth (a.y.cp.map bh) j.toNat=bh a.y.cp[j.toNat]:=ax _ _ _ Dl;have jS:(a.y.cp.take (j.toNat+1))=a.y.cp.take j.toNat++[a.y.cp[j.toNat]]:=zae Dl;rw[e1];generalize a.y.cp[j.toNat]=z at*
  have hLl:L.length<=a.L.length+200:=by
   rw[LK,zah];split
   ·rw[zaa,zas];omega
   simp
  have ML:j<((a.y.cp.map bh).length:Int):=by rw[zaa];exact GG
  refine bn ML (aA (λxt=>ao ⟨h0,ML⟩ (aq (jM _) (aq (c8 tf rfl (by omega) (by decide)) (ao (by omega) (hn (nl+1,List.take nl L++[iH (a.y.node,z)]) ⟨⟨hd,hL⟩,?_,?_⟩))))) λqgG=>ho _ (λh=>by cases h) ⟨nl,L,⟨tf,?_⟩,rfl⟩)
  ·simp[tf]
  ·rw[xt,zap rfl] at LK⊢;rw[jS,tf,zaj,LK,zau,zaM];rfl
  rw[qgG] at LK⊢;simpa using LK)
 (by
  rintro a ⟨nl,L⟩ j ae hj ⟨⟨hd,hL⟩,tf,LK⟩ ho;dsimp only at*
  (rw[<-Wl];delta Du Dv QZ Qn jA Qo ya I5 dq pc I6 Zbp Wj Wk dv Qp Gc Gd Ge Gf Gg vX xb Gh cg Gj LM Zk Zm rk JJ UP xv xw xx A1 BY A2 BZ B0 yf A3 A4 A5 A6 A7 vQ vR vS xy Yz Zbn ZA dV uy ZS Gk Gl B7 iN B8 dn lZ pB Za Z9 Zw Zt Z9K YA AG Iy)
  refine jU (by rw[zaa];omega) (ho _ (λh=>by cases h) ⟨nl,L,⟨tf,?_⟩,rfl⟩);rw[LK,zaj];cases a.on
  ·rfl
  simp[I0,zcj])
 (by rintro s ae ⟨m,o,y,na,np,nh,nl,A,P,H,L,i,on,k,rfl,⟨h1,h2,h3⟩,hp⟩;refine⟨⟨m,o,y,na,np,nh,A,P,H,i,on,k,L⟩,(nl,L),rfl,⟨⟨h1,by rw[<-h2];exact h3⟩,h2,by simp⟩,?_⟩;rintro z ⟨cL,L',hg,rfl⟩;exact hp cL L' ⟨hg.1,hg.2⟩)
theorem Wt:LD X 32 11 (ah (aK 32 11) Wo):=LD.idx (H:=[]) (hk:=[(20,ah (aK 32 20) Wm)]) (by kernel_rfl) (by kernel_rfl) .nil (.cons Ws .nil)
 (A:=OfQ) (B:=OfB) (λa b k=>Wi a.m a.o b.1 b.2.1 b.2.2.1 b.2.2.2.1 b.2.2.2.2.1 b.2.2.2.2.2.1 b.2.2.2.2.2.2.1 b.2.2.2.2.2.2.2 a.i a.on k) (λa=>a.g.ops.length)
 (λa k b=>(vM a.N a.t/\a.N<=300000000/\(0<=a.i/\a.i<a.m.length/\D.nth (a.m.map aR) a.i.toNat=aR a.g)/\a.g.ops.length<=200/\ ∀y∈a.g.ops,y.cp.length<=200)/\r8 (Ia a.on a.g.s (a.g.ops.take k) a.t) b.1 b.2.1 b.2.2.1 b.2.2.2.1 b.2.2.2.2.1 b.2.2.2.2.2.1 b.2.2.2.2.2.2.1 b.2.2.2.2.2.2.2)
 (λa x=> ∃pO pP pQ cL A' P' H' L',r8 (Ia a.on a.g.s a.g.ops a.t) pO pP pQ cL A' P' H' L'/\x=(.exit 2,of7 a.m a.o pO pP pQ cL A' P' H' L' a.i))
 (by
  rintro⟨m,o,g,i,on,t,N⟩ ⟨na,np,nh,nl,A,P,H,L⟩ k ae h0 tU du ⟨hc,hR⟩ hn ho;dsimp only at*
  (rw[<-Wn];delta Du Dv QZ Qn jA Qo ya I5 dq pc I6 Zbp Wj Wk dv Qp Gc Gd Ge Gf Gg vX xb Gh cg Gj LM Zk Zm ZS Bg Gk Gl B7 iN B8 dn lZ pB ZA pW dV uy Za Z9 Zw JL UP xv xw xx A1 BY A2 BZ B0 yf A3 A4 A5 A6 A7 vQ vR vS xy Yz Zbn Zt gT jV Zbt Zbs Zbr Fq ZbC Z7 rk Zbw Zbx ZbG la pz pA Zbv ZbB ZbA Zby AG dM gi sT l4 u9 ZbH Zbu Zl ZbD Zbz ZbE ZbF Fs Ri Ft LL)
  have kT:=(hc.1.ops (on:=on) (s:=g.s) hc.2.2.2.2 k.toNat (by omega)).mono (m:=300000200) (by have:=hc.2.1;have:=hc.2.2.2.1;omega);rw[hc.2.2.1.2.2];have u6:D.dS (D.ar (aR g) 6)=g.ops.map dC:=rfl;have e1:D.nth (g.ops.map dC) k.toNat=dC g.ops[k.toNat]:=ax _ _ _ du;have iv:=Ad (on:=on) (s:=g.s) (t:=t) du;have iA:=hc.2.2.2.2 _ (zaq du);have qY:((k.toNat:Nat):Int)=k:=by omega
  rw[u6,e1];generalize g.ops[k.toNat]=y at iv iA⊢;generalize Ia on g.s (g.ops.take k.toNat) t=t1 at iv hR kT;have u0:D.aj (D.ar (dC y) 0)=y.kind:=rfl;have sk:=IE y;have pn:=fh g;have dt:0<=i/\i<(m.length:Int):=⟨hc.2.2.1.1,hc.2.2.1.2.1⟩
  have PF:i.toNat<(m.map aR).length:=by rw[zaa];omega
  have Gm:0<=k/\k<((g.ops.map dC).length:Int):=by rw[zaa];exact⟨h0,tU⟩
  simp only[u0];refine ao dt (ao PF (aq pn (bn Gm.2 (ao dt (ao PF (aq pn (ao Gm (aq sk ?_))))))));by_cases gy:y.kind=0
  ·rw[show(y.kind==0)=true by simp[gy],show(y.kind !=2)=true by simp[gy]];cases on with
   |true=>simp only[zb1];exact ao dt (ao PF (aq pn (aq (c8 hR.na (by rw[hR.a,zaa]) (by have:=kT.2.1;omega) (by decide)) (aq (c8 hR.np (by rw[hR.p,zaa]) (by have:=kT.1;have:=kT.2.1;omega) (by decide)) (ao dt (ao PF (aq pn (aq (c8 hR.nh (by rw[hR.h,zaa]) (by have:=kT.2.2.1;omega) (by decide)) (⟨m,o,y,na+1,np+1,nh+1,nl,List.take na A++[bV (g.s.1,g.s.2,k)],List.take np P++[eB (sL y)],List.take nh H++[iH (y.node,g.s)],L,i,true,k,rfl,⟨iA,hR.nl.trans (by rw[hR.l,zaa]),by have:=hR.nl;have:=kT.2.2.2;omega⟩,λcL L' nk=>ao (by omega) (hn (na+1,np+1,nh+1,cL,List.take na A++[bV (g.s.1,g.s.2,k)],List.take np P++[eB (sL y)],List.take nh H++[iH (y.node,g.s)],L') ⟨hc,by rw[iv];exact(hR.go qY nk).1 (by simp[fX,gy]) (by simp[gu,gy])⟩)⟩)))))))))
   |false=>simp only[zb1];exact ao dt (ao PF (aq pn (aq (c8 hR.na (by rw[hR.a,zaa]) (by have:=kT.2.1;omega) (by decide)) (aq (c8 hR.np (by rw[hR.p,zaa]) (by have:=kT.1;have:=kT.2.1;omega) (by decide)) (⟨m,o,y,na+1,np+1,nh,nl,List.take na A++[bV (g.s.1,g.s.2,k)],List.take np P++[eB (sL y)],H,L,i,false,k,rfl,⟨iA,hR.nl.trans (by rw[hR.l,zaa]),by have:=hR.nl;have:=kT.2.2.2;omega⟩,λcL L' nk=>ao (by omega) (hn (na+1,np+1,nh,cL,List.take na A++[bV (g.s.1,g.s.2,k)],List.take np P++[eB (sL y)],H,L') ⟨hc,by rw[iv];exact(hR.go qY nk).2.1 (by simp[fX,gy]) (by simp[gu,gy])⟩)⟩)))))
  by_cases ft:y.kind=1
  ·rw[show(y.kind==0)=false by simp[gy],show(y.kind==1)=true by simp[ft],show(y.kind !=2)=true by simp[ft]];cases on with
   |true=>simp only[zb1,zbq];exact ao dt (ao PF (aq pn (aq (c8 hR.na (by rw[hR.a,zaa]) (by have:=kT.2.1;omega) (by decide)) (aq (c8 hR.np (by rw[hR.p,zaa]) (by have:=kT.1;have:=kT.2.1;omega) (by decide)) (ao dt (ao PF (aq pn (aq (c8 hR.nh (by rw[hR.h,zaa]) (by have:=kT.2.2.1;omega) (by decide)) (⟨m,o,y,na+1,np+1,nh+1,nl,List.take na A++[bV (g.s.1,g.s.2,k)],List.take np P++[eB (sL y)],List.take nh H++[iH (y.node,g.s)],L,i,true,k,rfl,⟨iA,hR.nl.trans (by rw[hR.l,zaa]),by have:=hR.nl;have:=kT.2.2.2;omega⟩,λcL L' nk=>ao (by omega) (hn (na+1,np+1,nh+1,cL,List.take na A++[bV (g.s.1,g.s.2,k)],List.take np P++[eB (sL y)],List.take nh H++[iH (y.node,g.s)],L') ⟨hc,by rw[iv];exact(hR.go qY nk).1 (by simp[fX,ft]) (by simp[gu,ft])⟩)⟩)))))))))
   |false=>simp only[zb1,zbq];exact⟨m,o,y,na,np,nh,nl,A,P,H,L,i,false,k,rfl,⟨iA,hR.nl.trans (by rw[hR.l,zaa]),by have:=hR.nl;have:=kT.2.2.2;omega⟩,λcL L' nk=>ao (by omega) (hn (na,np,nh,cL,A,P,H,L') ⟨hc,by rw[iv];exact(hR.go qY nk).2.2.2 (by simp[fX,ft]) (by simp[gu,ft])⟩)⟩
  by_cases LO:y.kind=2
  ·rw[show(y.kind==0)=false by simp[gy],show(y.kind==1)=false by simp[ft],show(y.kind !=2)=false by simp[LO]];cases on with
   |true=>simp only[zbq];exact⟨m,o,y,na,np,nh,nl,A,P,H,L,i,true,k,rfl,⟨iA,hR.nl.trans (by rw[hR.l,zaa]),by have:=hR.nl;have:=kT.2.2.2;omega⟩,λcL L' nk=>ao (by omega) (hn (na,np,nh,cL,A,P,H,L') ⟨hc,by rw[iv];exact(hR.go qY nk).2.2.2 (by simp[fX,LO]) (by simp[gu,LO])⟩)⟩
   |false=>simp only[zbq];exact⟨m,o,y,na,np,nh,nl,A,P,H,L,i,false,k,rfl,⟨iA,hR.nl.trans (by rw[hR.l,zaa]),by have:=hR.nl;have:=kT.2.2.2;omega⟩,λcL L' nk=>ao (by omega) (hn (na,np,nh,cL,A,P,H,L') ⟨hc,by rw[iv];exact(hR.go qY nk).2.2.2 (by simp[fX,LO]) (by simp[gu,LO])⟩)⟩
  rw[show(y.kind==0)=false by simp[gy],show(y.kind==1)=false by simp[ft],show(y.kind !=2)=true by simp[LO]];cases on with
  |true=>simp only[zbq];exact ao dt (ao PF (aq pn (aq (c8 hR.nh (by rw[hR.h,zaa]) (by have:=kT.2.2.1;omega) (by decide)) (⟨m,o,y,na,np,nh+1,nl,A,P,List.take nh H++[iH (y.node,g.s)],L,i,true,k,rfl,⟨iA,hR.nl.trans (by rw[hR.l,zaa]),by have:=hR.nl;have:=kT.2.2.2;omega⟩,λcL L' nk=>ao (by omega) (hn (na,np,nh+1,cL,A,P,List.take nh H++[iH (y.node,g.s)],L') ⟨hc,by rw[iv];exact(hR.go qY nk).2.2.1 (by simp[fX,gy,ft]) (by simp[gu,LO])⟩)⟩))))
  |false=>simp only[zbq];exact⟨m,o,y,na,np,nh,nl,A,P,H,L,i,false,k,rfl,⟨iA,hR.nl.trans (by rw[hR.l,zaa]),by have:=hR.nl;have:=kT.2.2.2;omega⟩,λcL L' nk=>ao (by omega) (hn (na,np,nh,cL,A,P,H,L') ⟨hc,by rw[iv];exact(hR.go qY nk).2.2.2 (by simp[fX,gy]) (by simp[gu])⟩)⟩)
 (by
  rintro⟨m,o,g,i,on,t,N⟩ ⟨na,np,nh,nl,A,P,H,L⟩ k ae hk ⟨hc,hR⟩ ho;dsimp only at*
  (rw[<-Wn];delta Du Dv QZ Qn jA Qo ya I5 dq pc I6 Zbp Wj Wk dv Qp Gc Gd Ge Gf Gg vX xb Gh cg Gj LM Zk Zm ZS Bg Gk Gl B7 iN B8 dn lZ pB ZA pW dV uy Za Z9 Zw JL UP xv xw xx A1 BY A2 BZ B0 yf A3 A4 A5 A6 A7 vQ vR vS xy Yz Zbn Zt gT jV Zbt Zbs Zbr Fq ZbC Z7 rk Zbw Zbx ZbG la pz pA Zbv ZbB ZbA Zby AG dM gi sT l4 u9 ZbH Zbu Zl ZbD Zbz ZbE ZbF Fs Ri Ft LL)
  rw[hc.2.2.1.2.2];have u6:D.dS (D.ar (aR g) 6)=g.ops.map dC:=rfl;rw[u6];rw[zaj] at hR;have dt:0<=i/\i<(m.length:Int):=⟨hc.2.2.1.1,hc.2.2.1.2.1⟩
  have PF:i.toNat<(m.map aR).length:=by rw[zaa];omega
  exact ao dt (ao PF (aq (fh g) (jU (by rw[zaa];omega) (ho _ (λh=>by cases h) ⟨na,np,nh,nl,A,P,H,L,hR,rfl⟩)))))
 (by rintro s ae ⟨m,o,na,np,nh,nl,A,P,H,L,i,on,t,N,hi,rfl,⟨h1,h2,h3,h4⟩,hp⟩;refine⟨⟨m,o,m[i.toNat],i,on,t,N⟩,(na,np,nh,nl,A,P,H,L),rfl,⟨⟨h2,h3,⟨h4.1,by show i<(m.length:Int);omega,ax _ _ _ hi⟩,h4.2.1,h4.2.2⟩,h1⟩,?_⟩;rintro z ⟨pO,pP,pQ,cL,A',P',H',L',g1,rfl⟩;exact hp pO pP pQ cL A' P' H' L' g1)
end
abbrev qcu(l:List ay)(s:ay)(k:Int):S:=⟨19,[(0,eS l),(3,.ref 0 0 0),(7,iD ((l.map bh).length:Int)),(8,iD k)],[(0,⟨0,none,.box 30 [iD s.1,iD s.2]⟩)]⟩
theorem Wu(l:List ay)(s:ay)(k:Int)(ae:PX×S->Prop):(bif Q6 k l then ob (NH k l) (ob (u7 l k) (bif Prod.fst s==F5 l k&&(Prod.snd s==Iz l k&&true) then ae (PX.ret,S.mk 19 (BV k) []) else ob (Zw k) (ae (PX.normal,S.mk 19 (Qf l::cE::(7,P.d (D.int .i64 (B1 l)))::pW k) (NW s))))) else ae (PX.exit 0,S.mk 19 [] []))=(aD [] [] 69 2 (qcu l s k)) ae:=by kernel_rfl
def qgU:S->K (PX×S):=λst ae=> ∃l s,st=qcu l s 0/\l.length<=1000000/\(∀i:Int,i=vP (λx=>x==s) l->0<=i->ae (.ret,⟨19,[(4,iD i)],[]⟩))/\(vP (λx=>x==s) l= -1->ae (.exit 0,⟨19,[],[]⟩))
def ZbJ(au:List ay)(gR:ay):S:=S.mk 19 (Qf au::cE::(7,P.d (D.int .i64 (B1 au)))::tu) (NW gR)
theorem qjR(l:List ay)(s:ay)(ae:P×List (Nat×En)->Prop):(∃(au:List ay) (gR:ay),ZbJ l s=ZbJ au gR/\kQ au/\(∀(i:Int),i=vP (λ(x:ay)=>x==gR) au->(0:Int)<=i->ae (Zm i,[]))/\(vP (λ(x:ay)=>x==gR) au=(-1:Int)->Zf ae))=(aJ [] [(2,ah (aK 69 2) qgU)] 69 [eS l,.d (bh s)] []) ae:=by kernel_rfl
def qgV:bg:=λps R ae=> ∃l s,ps=[eS l,.d (bh s)]/\R=[]/\l.length<=1000000/\ ∀i,i=vP (λx=>x==s) l->ae (iD i,[])
theorem qjS(l:List ay)(s:ay)(ae:P×List (Nat×En)->Prop):(∃(au:List ay) (gR:ay),kC l::jy s=kC au::jy gR/\Zo/\kQ au/\ ∀(i:Int),i=vP (λ(x:ay)=>x==gR) au->ae (P.d (D.bool (Z2 i)),[]))=(aJ [(69,qgV)] [] 38 [eS l,.d (bh s)] []) ae:=by kernel_rfl
def I7:bg:=λps R ae=> ∃l s,ps=[eS l,.d (bh s)]/\R=[]/\l.length<=1000000/\ ∀b,b=decide (s∈l)->ae (.d (.bool b),[])
def LP:bg:=λps R ae=> ∃l,ps=[bp l]/\R=[]/\lY l/\ ∀o,o=fP l->ae (.sl 0 0 o.length,[(0,⟨0,none,mL false o⟩)])
abbrev Fv:Nat:=101
abbrev kpU:Option (List Nat×List Nat):=some ([4,5,6],[4,5,6])
abbrev vlR(own:List ak):List (Nat×En):=[(0,⟨0,some 1,.ey⟩),(1,⟨0,some 0,.box 22 [bp own]⟩)]
abbrev Bo(own:List ak)(i:Int):S:=⟨16,[(0,.mp 0 0),(1,.ref 1 0 0),(5,bp own),(6,iD ((own.map aR).length:Int)),(7,iD i)],vlR own⟩
abbrev YI(own:List ak):S:=⟨16,[(0,.mp 0 0),(1,.ref 1 0 0)],vlR own⟩
abbrev YJ(z:Bool)(on:List ay)(x:ay)(e:Int):S:=⟨27,[(4,.ref 0 0 0),(5,.ref 1 0 0),(6,.ref 2 0 0)],[(0,⟨0,none,.box 30 [iD x.1,iD x.2]⟩),(1,⟨0,none,.box 35 [iD e]⟩),(2,⟨0,none,.box 51 [.sl 3 0 on.length]⟩),(3,⟨0,none,mL z on⟩)]⟩
def YK(own:List ak):List (Nat×En):=[(0,En.mk 0 (some 1) Obj.ey),(1,En.mk 0 (some 0) (Obj.box (22:TypeId) (jl own)))]
def YL:Nat×P:=(0,P.mp 0 0)
def LQ(own:List ak):S:=S.mk 16 [YL,(1,iN)] (YK own)
def N5(on:List ay):Nat×En:=(3,pc on)
def Bp(on:List ay):Nat×En:=(2,En.mk 0 none (Obj.box (51:TypeId) [P.sl 3 0 (dv on)]))
def Qq:En:=En.mk 0 none (Obj.box (35:TypeId) rA)
def Bq:Nat×En:=(1,Qq)
def LR:Nat×P:=(6,tj)
def ZbQ:List (Nat×P):=[BW,K1,LR]
def Zc1(on:List ay):PX×S:=(PX.normal,S.mk 27 ZbQ [yn,Bq,Bp on,N5 on])
def Wv(own:List ak)(i:Int):S:=S.mk 16 (YL::(1,iN)::(5,ct own)::(6,Fb own)::ZT i) (YK own)
def ZbV(on:List ay):Nat×En:=(3,En.mk 0 none (Obj.arr (30:TypeId) true (dq on)))
def ZbX(on:List ay):PX×S:=(PX.normal,S.mk 27 ZbQ [yn,Bq,Bp on,ZbV on])
def ZbR(own:List ak)(i:Int):Nat×En:=(0,En.mk 0 none (Obj.box (30:TypeId) [P.d (pA own i),P.d (pz own i)]))
def N6(on:List ay):D:=D.sl 2 (List.take (dv on) (dq on))
def ZbZ(on:List ay)(own:List ak)(i:Int)(ae:PX×S×PX×S->Prop):Prop:= ∃(l:List ay) (s:ay),P.d (N6 on)::IJ own i=kC l::jy s/\Zo/\kQ l/\ ∀(b:Bool),Fu b l s->bif b then ae (PX.ret,LQ own,PX.ret,S.mk 27 ZbQ [ZbR own i,Bq,Bp on,ZbV on]) else ob (Zw i) (ae (PX.normal,Wv own i,ZbX on))
def Qr(own:List ak)(i:Int):Bool:=D.aj (D.ar (gT own i) 4)==(0:Int)&&(D.aj (D.ar (gT own i) 5)==(0:Int)&&true)
theorem qlU(own:List ak)(on:List ay)(i:Int)(ae:PX×S×PX×S->Prop):(bif nv i own then ob (iC i own) (ob (dM own i) (bif Qr own i then ZbZ on own i ae else ob (Zw i) (ae (PX.normal,Wv own i,Zc1 on)))) else ae (PX.exit 0,LQ own,Zc1 on))=(mK [(38,I7)] [] 19 4 2000000 kpU 1 Fv 1 (Bo own i,(.normal,YJ false on (0,0) 0))) ae:=by kernel_rfl
theorem qlV(own:List ak)(on:List ay)(i:Int)(ae:PX×S×PX×S->Prop):(bif nv i own then ob (iC i own) (ob (dM own i) (bif Qr own i then ZbZ on own i ae else ob (Zw i) (ae (PX.normal,Wv own i,ZbX on)))) else ae (PX.exit 0,LQ own,ZbX on))=(mK [(38,I7)] [] 19 4 2000000 kpU 1 Fv 1 (Bo own i,(.normal,YJ true on (0,0) 0))) ae:=by kernel_rfl
def gUn:Av:=λy ae=> ∃own on,(own.length<=1000000/\on.length<=1000000)/\y=(Bo own 0,(.normal,YJ false on (0,0) 0))/\
 (∀z s,dL on own=some s->ae (.ret,YI own,(.ret,YJ z on s 0)))/\(∀z,dL on own=none->ae (.exit 0,YI own,(.normal,YJ z on (0,0) 0)))
abbrev unA(l own:List ak)(on:List ay)(r:Int):S:=⟨27,[(0,bp l),(1,iD r),(4,.ref 1004 0 0),(5,.ref 1005 0 0),(6,.ref 1006 0 0),(8,bp l),(9,.sl 1009000 0 on.length),(10,bp l),(11,iD r),(12,.fn Fv [.ref 1012000 0 0])],
 [(1004,⟨0,none,.box 30 [iD 0,iD 0]⟩),(1005,⟨0,none,.box 35 [iD 0]⟩),(1006,⟨0,none,.box 51 [.sl 1009000 0 on.length]⟩),(1006000,⟨0,none,.arr 30 false []⟩),(1009000,⟨0,none,mL false on⟩),(1012000,⟨0,none,.box 22 [bp own]⟩)]⟩
def Zc3(bG:List ay)(z:Bool):List (Nat×En):=[Bq,Bp bG,(3,En.mk 0 none (Obj.arr (30:TypeId) z (dq bG)))]
def Zc2(mM:List ak):S:=S.mk 16 (YL::(1,iN)::(5,ct mM)::(6,Fb mM)::pU) (YK mM)
theorem qlW(l own:List ak)(on:List ay)(r:Int)(ae:PX×S->Prop):(∃(mM:List ak) (bG:List ay),(iR mM/\kQ bG)/\(Zc2 own,Zc1 on)=(Zc2 mM,Zc1 bG)/\(∀(z:Bool) (s:ay),dL bG mM=some s->ae (PX.ret,S.mk 27 ZbQ (Ff s::Zc3 bG z)))/\ ∀(z:Bool),dL bG mM=none->ae (PX.normal,S.mk 27 ZbQ (yn::Zc3 bG z)))=(yi [] [] (λfi yt=>if Nat.beq fi Fv&&Nat.beq yt 1 then [(1,ep (aK Fv 1) gUn)] else []) 19 4 2000000 kpU (unA l own on r)) ae:=by kernel_rfl
def qgW:S->K (PX×S):=λs ae=> ∃l own on r,s=unA l own on r/\(own.length<=1000000/\on.length<=1000000)/\(∀z s,dL on own=some s->ae (.ret,YJ z on s 0))/\(∀z,dL on own=none->ae (.normal,YJ z on (0,0) 0))
def stO(a:ay×Int):P:= .cH [.d (bh a.1),iD a.2]
def Zc9(ae:P×List (Nat×En)->Prop):Prop:=ae (P.cH [P.d (D.agg [Z7,Z7]),P.d (D.int .i64 (200:Int))],[])
def Zc8(ae:P×List (Nat×En)->Prop)(s:ay):Prop:=ae (P.cH (nb s::rA),[])
def Fw(xZ:Int):Nat×P:=(11,Zm xZ)
def AH(mI:List ak):Nat×P:=(8,ct mI)
def Zc7(mI:List ak)(xZ:Int)(on:List ay)(own:List ak):S:=S.mk 27 [de mI,ZP xZ,(4,P.ref 1004 0 0),(5,P.ref 1005 0 0),(6,P.ref 1006 0 0),AH mI,(9,P.sl 1009000 0 (dv on)),(10,ct mI),Fw xZ,(12,P.fn (101:FuncId) [P.ref 1012000 0 0])] [(1004,Bb),(1005,Qq),(1006,En.mk 0 none (Obj.box (51:TypeId) [P.sl 1009000 0 (dv on)])),(1006000,vX),(1009000,pc on),(1012000,En.mk 0 none (Obj.box (22:TypeId) (jl own)))]
def B9(eD:List ak)(bT:Int):List P:=ct eD::Zn bT
theorem qlX(l:List ak)(r:Int)(ae:P×List (Nat×En)->Prop):(∃(au:List ak),jl l=jl au/\Zo/\lY au/\ ∀(o:List ay),o=fP au-> ∃(eD:List ak) (bT:Int),B9 l r=B9 eD bT/\Zo/\lY eD/\ ∀(aU:List ak),aU=bt (aw eD) bT-> ∃(mI:List ak) (own:List ak) (on:List ay) (xZ:Int),Zc7 l r o aU=Zc7 mI xZ on own/\(iR own/\kQ on)/\(∀(_:Bool) (s:ay),dL on own=some s->Zc8 ae s)/\ ∀(_:Bool),dL on own=none->Zc9 ae)=(sM [(36,V7)] [(35,LP)] [(500004,qgW)] 19 [bp l,iD r] []) ae:=by kernel_rfl
theorem qjT(s x:ay):(s.1==x.1&&(s.2==x.2&&true))=(x==s):=by rw[zaH];obtain⟨a,b⟩:=s;obtain⟨c,d⟩:=x;simp;omega
section
variable{X:XF}
theorem qcv:LD X 69 2 (ah (aK 69 2) qgU):=
 LD.find (H:=[]) (hk:=[]) (by kernel_rfl) (by kernel_rfl) .nil .nil
  (A:=List ay×ay) (λa k=>qcu a.1 a.2 k) (·.1) (λa _ x=>x==a.2) (λa=>a.1.length<=1000000) (λa i=>(.ret,⟨19,[(4,iD i)],[]⟩)) (λa=>(.exit 0,⟨19,[],[]⟩)) (λ_ _ h=>by cases h) (λ_ h=>by cases h)
  (by
   rintro⟨l,s⟩ k ae du hm h0 hk ht hf;dsimp only at*
   (rw[<-Wu];delta iP iQ yh Ff NW ZA pW dq B1 bP cE kC Qf Za Z9 Zw Zk Zm og BV Zt Iz F5 u7 NH Q6)
   have e1:D.nth (l.map bh) k.toNat=bh l[k.toNat]:=ax _ _ _ du;have v:(s.1==D.aj (D.ar (bh l[k.toNat]) 0)&&(s.2==D.aj (D.ar (bh l[k.toNat]) 1)&&true))=(l[k.toNat]==s):=qjT _ _;rw[e1,v];simp only[qcu,zaa] at hf⊢;exact bn hk (ao ⟨h0,hk⟩ (aq (jM _) (aA (λh=>ht h) λh=>ao (by omega) (hf h)))))
  (by
   rintro⟨l,s⟩ k ae hm hk hp;dsimp only at*
   (rw[<-Wu];delta iP iQ yh Ff NW ZA pW dq B1 bP cE kC Qf Za Z9 Zw Zk Zm og BV Zt Iz F5 u7 NH Q6)
   exact jU (by rw[zaa];omega) hp)
  (by rintro st ae ⟨l,s,rfl,hm,h1,h2⟩;exact⟨(l,s),rfl,hm,λi hi h0 ht hb=>h1 i (by rw[Ix hi ht hb];omega) h0,λh=>h2 (NF h)⟩)
theorem qjU:FD X 69 qgV:=FD.mk (H:=[]) (hk:=[(2,ah (aK 69 2) qgU)]) (by kernel_rfl) .nil (.cons qcv .nil) (by
 intro ps R ae hh;obtain⟨l,s,rfl,rfl,hm,hp⟩:=hh
 (rw[<-qjR];delta Ze Zf Zk Zm dv kQ iP iQ yh Ff NW Z7 tu dq B1 bP cE kC Qf ZbJ)
 exact⟨l,s,rfl,hm,λi hi _=>hp i hi,λh=>hp _ h.symm⟩)
theorem qdT:FD X 38 I7:=FD.mk (H:=[(69,qgV)]) (hk:=[]) (by kernel_rfl) (.cons qjU .nil) .nil (by
 intro ps R ae hh;obtain⟨l,s,rfl,rfl,hm,hp⟩:=hh
 (rw[<-qjS];delta Z2 dv kQ Zo iP iQ nb jy dq kC)
 refine⟨l,s,rfl,rfl,hm,λi hi=>hp _ ?_⟩;have h:=Am (λx=>x==s) l;rw[<-hi] at h;rw[zaH,zai,zai];have h2:(l.any λx=>x==s)=true↔s∈l:=by simp[zbo]
 rw[<-h2];constructor
 ·intro hge;refine zaN λhn=> ?_;rw[zaQ] at hn;have:=h.2 hn;omega
 intro ha;refine zaN λhn=> ?_;have:=h.1 (by omega);rw[this] at ha;cases ha)
end
theorem uL(l:List ak):(fP l).length<=l.length:=by have h1:=qaY ((aw l).map eC);have h2:=dP l;rw[zaa] at h1;unfold fP;omega
section
variable{X:XF}{w0:World}(hX:dw PR w0 X.cf)
include hX
theorem qlY:LY w0 19 4 1 Fv 1 (ep (aK Fv 1) gUn):=LY.par hX (H:=[(38,I7)]) (HN:=[]) (base:=2000000) (keep:=kpU) Gb (.cons qdT .nil) .nil (by kernel_rfl) (by kernel_rfl) (by kernel_rfl)
 (A:=List ak×List ay) (B:=Bool×Int)
 (λa b=>(Bo a.1 b.2,(.normal,YJ b.1 a.2 (0,0) 0)))
 (λa b=>(a.1.length<=1000000/\a.2.length<=1000000)/\0<=b.2/\b.2.toNat<=a.1.length/\dL a.2 a.1=dL a.2 (a.1.drop b.2.toNat))
 (λa b=>((a.1.length:Int)-b.2).toNat)
 (λa x=>(∃z s,dL a.2 a.1=some s/\x=(.ret,YI a.1,(.ret,YJ z a.2 s 0)))\/(∃z,dL a.2 a.1=none/\x=(.exit 0,YI a.1,(.normal,YJ z a.2 (0,0) 0))))
 (by
  rintro⟨own,on⟩ ⟨z,i⟩ ⟨hm,h0,hi,hu⟩;dsimp only at*
  have key: ∀(aQ:i.toNat<own.length),dL on own=if own[i.toNat].bs=(0,0)/\own[i.toNat].s∈on then some own[i.toNat].s else dL on (own.drop (i+1).toNat):=λaQ=>by rw[hu,za4 aQ,show(i+1).toNat=i.toNat+1 by omega];rfl
  have xq: ¬i.toNat<own.length->dL on own=none:=λaQ=>by rw[hu,zcN (by omega)];rfl
  have tk:List.take on.length (on.map bh)=on.map bh:=zal (by simp);cases z with
  |false=>
   (rw[<-qlU];delta cg ct jl YK iN YL LQ dq pc N5 dv Bp Z7 rA Qq Bq Bb yn tj LR K1 bP BW ZbQ Zc1 ZA ZT gi Fb Wv Za Z9 Zw ZbV ZbX Zt gT la pz pA ZbR Fu kQ Zo iP iQ nb jy kC tA IJ N6 ZbZ Qr dM iC nv)
   rw[zaa];refine cr (λhp=> ?_) λhp=> .inr ⟨false,xq (by omega),rfl⟩;have aQ:i.toNat<own.length:=by omega
   have e1:D.nth (own.map aR) i.toNat=aR own[i.toNat]:=ax _ _ _ aQ;have key:=key aQ;rw[e1,tk];generalize own[i.toNat]=g at*
   have u1:D.aj (D.ar (aR g) 4)=g.bs.1:=rfl;have u2:D.aj (D.ar (aR g) 5)=g.bs.2:=rfl;rw[u1,u2];refine ao ⟨h0,hp⟩ (aq (fh _) (aA (λh=>⟨on,g.s,rfl,rfl,hm.2,λb hb=> ?_⟩) λh=>ao (by omega) ?_))
   ·have hz:g.bs=(0,0):=by simp only[zbx,zab,zaW] at h;exact zdw h.1 h.2
    subst hb;refine cr (λhb=> .inl ⟨true,g.s,by rw[key,zap ⟨hz,hb⟩],rfl⟩) λhb=>ao (by omega) ?_;exact⟨((own.length:Int)-(i+1)).toNat,by omega,(true,i+1),by simp only[Bo,zaa],⟨hm,by show 0<=i+1;omega,by show(i+1).toNat<=_;omega,by show dL on own=dL on (own.drop (i+1).toNat);rw[key,zan (λhh=>hb hh.2)]⟩,rfl⟩
   have hz: ¬g.bs=(0,0):=λhz=>by rw[hz] at h;simp at h
   exact⟨((own.length:Int)-(i+1)).toNat,by omega,(false,i+1),by simp only[Bo,zaa],⟨hm,by show 0<=i+1;omega,by show(i+1).toNat<=_;omega,by show dL on own=dL on (own.drop (i+1).toNat);rw[key,zan (λhh=>hz hh.1)]⟩,rfl⟩
  |true=>
   (rw[<-qlV];delta cg ct jl YK iN YL LQ dq ZbV dv Bp Z7 rA Qq Bq Bb yn tj LR K1 bP BW ZbQ ZbX ZA ZT gi Fb Wv Za Z9 Zw Zt gT la pz pA ZbR Fu kQ Zo iP iQ nb jy kC tA IJ N6 ZbZ Qr dM iC nv)
   rw[zaa];refine cr (λhp=> ?_) λhp=> .inr ⟨true,xq (by omega),rfl⟩;have aQ:i.toNat<own.length:=by omega
   have e1:D.nth (own.map aR) i.toNat=aR own[i.toNat]:=ax _ _ _ aQ;have key:=key aQ;rw[e1,tk];generalize own[i.toNat]=g at*
   have u1:D.aj (D.ar (aR g) 4)=g.bs.1:=rfl;have u2:D.aj (D.ar (aR g) 5)=g.bs.2:=rfl;rw[u1,u2];refine ao ⟨h0,hp⟩ (aq (fh _) (aA (λh=>⟨on,g.s,rfl,rfl,hm.2,λb hb=> ?_⟩) λh=>ao (by omega) ?_))
   ·have hz:g.bs=(0,0):=by simp only[zbx,zab,zaW] at h;exact zdw h.1 h.2
    subst hb;refine cr (λhb=> .inl ⟨true,g.s,by rw[key,zap ⟨hz,hb⟩],rfl⟩) λhb=>ao (by omega) ?_;exact⟨((own.length:Int)-(i+1)).toNat,by omega,(true,i+1),by simp only[Bo,zaa],⟨hm,by show 0<=i+1;omega,by show(i+1).toNat<=_;omega,by show dL on own=dL on (own.drop (i+1).toNat);rw[key,zan (λhh=>hb hh.2)]⟩,rfl⟩
   have hz: ¬g.bs=(0,0):=λhz=>by rw[hz] at h;simp at h
   exact⟨((own.length:Int)-(i+1)).toNat,by omega,(true,i+1),by simp only[Bo,zaa],⟨hm,by show 0<=i+1;omega,by show(i+1).toNat<=_;omega,by show dL on own=dL on (own.drop (i+1).toNat);rw[key,zan (λhh=>hz hh.1)]⟩,rfl⟩)
 (by
  rintro y ae ⟨own,on,h1,rfl,h2,h3⟩;refine⟨(own,on),(false,0),rfl,⟨h1,zbF _,by simp,rfl⟩,?_⟩;rintro x (⟨z,s,h,rfl⟩| ⟨z,h,rfl⟩)
  ·exact h2 z s h
  exact h3 z h)
theorem qlZ:FN w0 19 4 qgW:=FN.mk hX (H:=[]) (HN:=[]) Gb .nil .nil (base:=2000000) (keep:=kpU) (by kernel_rfl) (hk:=λfi yt=>if Nat.beq fi Fv&&Nat.beq yt 1 then [(1,ep (aK Fv 1) gUn)] else [])
 (by
  intro fi yt h Ba hl;split at hl
  next hb=>
   rw[zab] at hb;have e1:=zag hb.1;have e2:=zag hb.2;subst e1 e2;unfold lk at hl;split at hl
   next he=>have e3:=zag he;subst e3;cases hl;exact⟨by kernel_rfl,qlY hX⟩
   cases hl
  cases hl)
 (by
  rintro s ae ⟨l,own,on,r,rfl,hm,h1,h2⟩
  (rw[<-qlW];delta Z7 rA Bb yn dq dv Bp Qq Bq Zc3 iP iQ yh Ff tj LR iN K1 bP BW ZbQ pc N5 Zc1 cg ct jl YK pU gi Fb YL Zc2 kQ dn iR)
  exact⟨own,on,hm,rfl,h1,h2⟩)
def xc:bg:=λps R ae=> ∃l r,ps=[bp l,iD r]/\R=[]/\lY l/\ ∀a,a=nR l r->ae (stO a,[])
theorem qgX(hV:ND w0 35 LP):ND w0 19 xc:=ND.mk hX (H:=[(36,V7)]) (HN:=[(35,LP)]) (hk:=[(500004,qgW)]) Gb (by kernel_rfl) (by kernel_rfl) (.cons qdK .nil) (.cons hV .nil) (.range (qlZ hX) .nil) (by
 intro ps R ae hh;obtain⟨l,r,rfl,rfl,hs,hp⟩:=hh
 (rw[<-qlX];delta Z7 Zc9 rA iP iQ nb Zc8 dv kQ dn iR cg ct jl dq pc vX Qq Bb Zk Zm Fw AH ZP de Zc7 Zn B9 Zo)
 have hl:=hs.1;have h1:=uL l;have h2:=dP l;have h3:(bt (aw l) r).length<=(aw l).length:=by rw[(dB _ _).length_eq];exact zaG _ _
 refine⟨l,rfl,rfl,hs,λo ho=>⟨l,r,rfl,rfl,hs,λow how=>⟨l,ow,o,r,rfl,⟨by rw[how];omega,by rw[ho];omega⟩,λ_ s h=> ?_,λ_ h=> ?_⟩⟩⟩
 ·exact hp (s,0) (by unfold nR;rw[<-ho,<-how,h];rfl)
 exact hp ((0,0),200) (by unfold nR;rw[<-ho,<-how,h];rfl))
end
def qgY:S->K (PX×S):=λs ae=> ∃m o,s=of7 m o 0 0 0 0 [] [] [] [] 0/\(m.length<=1000000/\o.length<=1000000/\ ∀g∈m,cy g=true)/\ ∀na np nh nl A P H L,r8 (jQ o m) na np nh nl A P H L->ae (.exit 0,⟨140,[(0,.sl 0 0 m.length),(2,.ref 1 0 0),(3,.ref 7 0 0),(4,.sl 13 0 na),(5,.sl 14 0 np)],ofR m o nh nl A P H L⟩)
def Qs(Qt:List av):List D:=List.take (fF Qt) (fg Qt)
def Qu(Qt:List av):P:=P.d (D.sl 3 (Qs Qt))
def LS(bz:List ak):P:=P.d (D.sl 7 (List.take (dn bz) (cg bz)))
def Zca(bz:List ak)(aU:List ay):S:=S.mk 140 (pB bz::B8::B7::(4,P.sl 13 0 0)::(5,P.sl 14 0 0)::JE) [Gj bz,Gh,xb,Gg,Gf,Ge,Gc,(7,En.mk 0 none (Obj.box (69:TypeId) (P.sl 8 0 (dv aU)::Wk::P.sl 10 0 0::P.sl 11 0 0::Wj))),I6 aU,I5,(10,Gd),(11,Gd),Qn,(13,JK),(14,ya)]
def Zce(m:List ak):List P:=[LS m]
theorem ql0(l:List ak)(ae:P×List (Nat×En)->Prop):(∃(au:List ak),jl l=jl au/\Zo/\lY au/\ ∀(m:List ak),m=aw au-> ∃(l:List ak),Zce m=jl l/\Zo/\iR l/\ ∀(o:List Hd),o=List.map eC l-> ∃(l:List Hd),Z7Z o=[P.d (D.sl 4 (List.map bM l))]/\Zo/\pZ l/\ ∀(o:List ay),o=AW l-> ∃(bz:List ak) (aU:List ay),Zca m o=Zca bz aU/\(iR bz/\kQ aU/\Zb2 bz)/\ ∀(na np nh nl:Nat) (A P H L:List D),r8 (jQ aU bz) na np nh nl A P H L-> ∃(a:List av) (l:List Pl),[Pi.P.d (D.sl 3 (List.take na A)),Pi.P.d (D.sl 8 (List.take np P))]=[gJ a,iG l]/\Zo/\(nu a/\jR l=fF a)/\ ∀(o:List Pl),o=Lc (ET a l)-> ∃(l:List ak) (p:List Pl),[LS bz,Pi.P.d (D.sl 8 (List.take (jR o) (gh o)))]=[ct l,iG p]/\Zo/\Zb4 p l/\ ∀(o:List Pl),o=Io l p-> ∃(h:List aZ) (g:List aZ),[Pi.P.d (D.sl 5 (List.take nh H)),Pi.P.d (D.sl 5 (List.take nl L))]=[vY h,vY g]/\Zo/\(Dm h/\Dm g)/\ ∀(Qt:List av),Qt=Ld h g-> ∃(l:List Pl) (v:List av),[Pi.P.d (D.sl 8 (List.take (jR o) (gh o))),Qu Qt]=[iG l,gJ v]/\Zo/\(Ij l/\nu v)/\ae (Pi.P.d (D.agg [N6 aU,D.sl 8 (List.take (jR o) (gh o)),D.sl 5 (List.take nh H),D.sl 5 (List.take nl L),D.sl 6 (List.take (List.length (iu (pw l) v)) (List.map ew (iu (pw l) v)))]),[]))=(aJ [(40,uD),(44,VM),(53,VS),(55,qgO),(54,Wh),(57,Vz),(56,ER)] [(7,ah (aK 32 7) qgY)] 32 [bp l] []) ae:=by kernel_rfl
def sW(l:List ak)(t:Tl):List Pl:=Io l (Lc (ET t.a t.p))
def AI(l:List ak)(t:Tl):List It:=iu (pw (sW l t)) (Ld t.h t.g)
def qjV(o:List ay)(p:List Pl)(h g:List aZ)(x:List It):P:= .d (.agg [.sl 2 (o.map bh),.sl 8 (p.map eB),.sl 5 (h.map iH),.sl 5 (g.map iH),.sl 6 (x.map ew)])
def SmS(l:List ak):Prop:=lY l/\SmV l
def I8:bg:=λps R ae=> ∃l,ps=[bp l]/\R=[]/\SmS l/\ ∀o t p x,o=fP l->t=jQ o (aw l)->p=sW (aw l) t->x=AI (aw l) t->ae (qjV o p t.h t.g x,[])
def I9(f:D->Option D)(o:List ay):Prop:= ∀s:ay,f (bh s)=if s∈o then some (.agg []) else none
abbrev vwG(g:List ak)(o:List ay)(f:D->Option D)(c:Int)(d:D->Option D)(n:Int)(na np nh nl:Nat)(A P H L:List D):List (Nat×En):=[(0,⟨0,some 0,.box 120 [.sl 1 0 g.length,.sl 2 0 o.length,.mp 3 0,.sl 5 0 na,.sl 6 0 np,.mp 4 0,.sl 7 0 nh,.sl 8 0 nl]⟩),(1,⟨0,some 1,pb false g⟩),(2,⟨0,some 2,mL false o⟩),(3,⟨0,some 3,onM f c⟩),(4,⟨0,some 6,qci d n⟩),(5,⟨0,none,.arr 50 false A⟩),(6,⟨0,none,.arr 104 false P⟩),(7,⟨0,none,.arr 106 false H⟩),(8,⟨0,none,.arr 106 false L⟩)]
def qgZ:bg:=λps R ae=> ∃x g o f c d n na np nh nl A P H L t N e,ps=[.ref 0 0 0,.d (aR x)]/\R=qjJ g o f c d n na np nh nl A P H L/\(I9 f o/\r8 t na np nh nl A P H L/\mq d e/\vM N t/\N<=300000000/\x.ops.length<=200/\ ∀y∈x.ops,y.cp.length<=200)/\
 ∀d' n' pO pP pQ cL A' P' H' L',r8 (Jx o t x) pO pP pQ cL A' P' H' L'->mq d' (x.ops.foldl rH e)->ae (.cH [],vwG g o f c d' n' pO pP pQ cL A' P' H' L')
abbrev vwL(g:List ak)(o:List ay)(f:D->Option D)(c:Int)(d:D->Option D)(n:Int)(na np nh nl:Nat)(A P H L:List D):List (Nat×En):=[(0,⟨0,none,vwB g.length o.length na np nh nl⟩),(1,⟨0,none,pb false g⟩),(2,⟨0,none,mL false o⟩),(3,⟨0,none,onM f c⟩),(4,⟨0,none,.arr 50 false A⟩),(5,⟨0,none,.arr 104 false P⟩),(6,⟨0,none,qci d n⟩),(7,⟨0,none,.arr 106 false H⟩),(8,⟨0,none,.arr 106 false L⟩)]
abbrev noD:D->Option D:=λ_=>none
abbrev vw0(g:List ak)(o:List ay)(f:D->Option D)(c:Int):List (Nat×En):=vwL g o f c noD 0 0 0 0 0 [] [] [] []
abbrev vo5(l g:List ak)(h:List Hd)(f:D->Option D)(c:Int)(i:Int):S:=⟨98,[(3,.ref 0 0 0),(4,.mp 9 0),(5,.sl 10 0 h.length),(6,.sl 11 0 h.length),(20,bp l),(21,iD ((l.map aR).length:Int)),(22,iD i)],vw0 g [] noD 0++[(9,⟨0,none,mpS f c⟩),(10,⟨0,none,mL false (h.map (·.2))⟩),(11,⟨0,none,mL false (h.map (·.1))⟩)]⟩
abbrev qjW(g:List ak)(h:List Hd):S:=⟨98,[(3,.ref 0 0 0),(5,.sl 9 0 h.length),(6,.sl 10 0 h.length)],vw0 g [] noD 0++[(9,⟨0,none,mL false (h.map (·.2))⟩),(10,⟨0,none,mL false (h.map (·.1))⟩)]⟩
def Ww(h:List Hd):En:=En.mk 0 none (Obj.arr (30:TypeId) false (oq h))
def Wx(h:List Hd):En:=En.mk 0 none (Obj.arr (30:TypeId) false (qM h))
def ZcE(h:List Hd)(l:List ak)(i:Int):En:=En.mk 0 none (Obj.arr (30:TypeId) false (List.take (fR h) (oq h)++[tA l i]))
def ZcD(h:List Hd)(l:List ak)(i:Int):En:=En.mk 0 none (Obj.arr (30:TypeId) false (List.take (fR h) (qM h)++[D.agg (Yv l i)]))
def Zcp:List P:=[Ds,P.sl 4 0 0,P.sl 5 0 0,P.mp 6 0,P.sl 7 0 0,P.sl 8 0 0]
def Zcq:List P:=P.sl 2 0 0::Zcp
def Zcn(l:List ak)(i:Int):List (Nat×P):=[(20,ct l),(21,Fb l),(22,P.d (ZA i))]
def Zcm:Nat×P:=(4,P.mp 9 0)
def ZcC(h:List Hd)(l:List ak)(i:Int):Nat:=fR h+List.length [D.agg (Yv l i)]
def ZcB(h:List Hd)(l:List ak)(i:Int):Nat:=fR h+List.length [tA l i]
def ZcA(h:List Hd):List (Nat×En):=[(10,Wx h),(11,Ww h)]
def Wy:Nat×En:=(8,Gd)
def Wz:Nat×En:=(7,Gd)
def WA:Nat×En:=(6,En.mk 0 none (Obj.map 50 (λ(_:D)=>none) (0:Int) false))
def WB:Nat×En:=(5,ya)
def WC:Nat×En:=(4,JK)
def Zcs:Nat×En:=(3,PW)
def Zcr(g:List ak):Nat×En:=(0,En.mk 0 none (Obj.box (120:TypeId) (vd g::Zcq)))
def Zco(h:List Hd)(l:List ak)(i:Int):List (Nat×P):=cE::Zcm::(5,P.sl 10 0 (fR h))::(6,P.sl 11 0 (fR h))::Zcn l i
theorem qdU(l g:List ak)(h:List Hd)(f:D->Option D)(c:Int)(i:Int)(ae:PX×S->Prop):(bif nv i l then ob (iC i l) (ob (dM l i) (∃(bq:ak),Re l i=[jz bq]/\Zo/\Q9 bq/\ ∀(e:Int),Z6n e bq->bif e !=(0:Int) then ob (Zw i) (ae (PX.normal,S.mk 98 (Zco h l i) (Zcr g::Dn g::xb::Zcs::WC::WB::WA::Wz::Wy::(9,B3 f c)::ZcA h))) else ob (cw PR (3:TypeId) (cJ (f (tA l i)) Z7)) (ob (Z6B f l i) (ob (cw PR (3:TypeId) (Z6C l i f)) (bif decide (D.aj (Z6C l i f)>(1:Int)) then ob (Zw i) (ae (PX.normal,S.mk 98 (Zco h l i) (Zcr g::Dn g::xb::Zcs::WC::WB::WA::Wz::Wy::(9,Z6J l i f c)::ZcA h))) else ob (Z6G g l i) (ob (Nat.ble (fR h) (List.length (oq h))&&aI (ZcB h l i) 16) (ob (Nat.ble (fR h) (List.length (qM h))&&aI (ZcC h l i) 16) (ob (Zw i) (ae (PX.normal,S.mk 98 (cE::Zcm::(5,P.sl 10 0 (ZcC h l i))::(6,P.sl 11 0 (ZcB h l i))::Zcn l i) [(0,En.mk 0 none (Obj.box (120:TypeId) (P.sl 1 0 (NL g l i)::Zcq))),(1,Z6H g l i),xb,Zcs,WC,WB,WA,Wz,Wy,(9,Z6J l i f c),(10,ZcD h l i),(11,ZcE h l i)])))))))))) else ae (PX.exit 0,S.mk 98 [cE,(5,P.sl 9 0 (fR h)),(6,P.sl 10 0 (fR h))] [Zcr g,Dn g,xb,Zcs,WC,WB,WA,Wz,Wy,(9,Wx h),(10,Ww h)]))=(fb [(51,IG)] [] [] 61 5 (vo5 l g h f c i)) ae:=by kernel_rfl
def qg0:S->K (PX×S):=λs ae=> ∃l,s=vo5 l [] [] noD 0 0/\lY l/\ ∀g h,g=aw l->h=g.map eC->ae (.exit 0,qjW g h)
abbrev qg1(g:List ak)(o:List ay)(f:D->Option D)(c:Int)(i:Int):S:=⟨98,[(3,.ref 0 0 0),(71,.sl 2 0 o.length),(72,iD (o.length:Int)),(73,iD i)],vw0 g o f c⟩
def ZcG:List (Nat×En):=[WC,WB,WA,Wz,Wy]
def ZcF(g:List ak)(o:List ay):Nat×En:=(0,En.mk 0 none (Obj.box (120:TypeId) (vd g::Dt o::Zcp)))
theorem WD(g:List ak)(o:List ay)(f:D->Option D)(c:Int)(i:Int)(ae:PX×S->Prop):(bif decide (i<(↑(dv o):Int)) then ob (decide ((0:Int)<=i/\i<(↑(dv o):Int))) (ob (NV i o) (ob (u7 o i) (ob (Zw i) (ae (PX.normal,S.mk 98 [cE,(71,Dt o),(72,P.d (D.int .i64 (↑(dv o):Int))),(73,P.d (ZA i))] (ZcF g o::Dn g::(2,pc o)::(3,En.mk 0 none (Obj.map 30 (λ(k':D)=>bif D.pg (D.agg [D.int .i64 (F5 o i),D.int .i64 (D.aj (D.ar (D.nth (dq o) (Zt i)) (0+1)))]) k' then some (D.agg []) else f k') (bif Option.isSome (f (D.agg (IA o i))) then c else c+(1:Int)) false))::ZcG)))))) else ae (PX.exit 2,S.mk 98 JB (ZcF g o::Dn g::(2,pc o)::(3,B3 f c)::ZcG)))=(fb [] [] [] 61 15 (qg1 g o f c i)) ae:=by kernel_rfl
def WE:S->K (PX×S):=λs ae=> ∃g o,s=qg1 g o noD 0 0/\o.length<=1000000/\ ∀f c,I9 f o->ae (.exit 2,⟨98,[(3,.ref 0 0 0)],vw0 g o f c⟩)
abbrev qg2(g:List ak)(o:List ay)(f:D->Option D)(c:Int)(d:D->Option D)(n:Int)(na np nh nl:Nat)(A P H L:List D)(i:Int):S:=⟨98,[(3,.ref 0 0 0),(87,.sl 1 0 g.length),(88,iD (g.length:Int)),(89,iD i)],vwL g o f c d n na np nh nl A P H L⟩
def ZcI(bq:List ak)(aU:List ay)(pO:Nat)(pP:Nat)(pQ:Nat)(cL:Nat)(Bh:D->Option D)(Fl:Int)(A':List D)(P':List D)(d':D->Option D)(n':Int)(H':List D)(L':List D):List (Nat×En):=(0,En.mk 0 none (Obj.box (120:TypeId) (vd bq::Dt aU::Ds::P.sl 4 0 pO::P.sl 5 0 pP::Wd pQ cL)))::Dn bq::(2,pc aU)::(3,B3 Bh Fl)::uJ A'::uI P'::(6,En.mk 0 none (Obj.map 50 d' n' false))::Zap H' L'
def ZcH(bq:List ak)(aU:List ay)(kR:Nat)(kS:Nat)(mn:Nat)(gW:Nat)(Bh:D->Option D)(Fl:Int)(Bk:List D)(Bl:List D)(YD:D->Option D)(mf:Int)(Bm:List D)(rG:List D):List (Nat×En):=[AF bq aU kR kS mn gW,nZ bq,nY aU,nX Bh Fl,(4,En.mk 0 (some 4) (Obj.arr (50:TypeId) false Bk)),(5,En.mk 0 (some 5) (Obj.arr (104:TypeId) false Bl)),ve YD mf,(7,En.mk 0 (some 7) (Obj.arr (106:TypeId) false Bm)),(8,En.mk 0 (some 8) (Obj.arr (106:TypeId) false rG))]
theorem WG(g:List ak)(o:List ay)(f:D->Option D)(c:Int)(d:D->Option D)(n:Int)(na np nh nl:Nat)(A P H L:List D)(i:Int)(ae:PX×S->Prop):(bif Ga i g then ob (u9 i g) (ob (sT i g) (ob (dM g i) (∃(x:ak) (bq:List ak) (aU:List ay) (Bh:D->Option D) (Fl:Int) (YD:D->Option D) (mf:Int) (kR:Nat) (kS:Nat) (mn:Nat) (gW:Nat) (Bk:List D) (Bl:List D) (Bm:List D) (rG:List D) (t:Tl) (N:Nat) (e:av->Option Bool),bP::Re g i=[bP,jz x]/\ZcH g o na np nh nl f c A P d n H L=ZcH bq aU kR kS mn gW Bh Fl Bk Bl YD mf Bm rG/\(I9 Bh aU/\r8 t kR kS mn gW Bk Bl Bm rG/\mq YD e/\vM N t/\N<=300000000/\Z63 x/\ ∀(y:bc),y∈ak.ops x->JL y)/\ ∀(d':D->Option D) (n':Int) (pO pP pQ cL:Nat) (A' P' H' L':List D),r8 (Jx aU t x) pO pP pQ cL A' P' H' L'->mq d' (List.foldl rH e (ak.ops x))->ob (Zw i) (ae (PX.normal,S.mk 98 [cE,(87,vd g),(88,Bi g),(89,Pi.P.d (ZA i))] (ZcI bq aU pO pP pQ cL Bh Fl A' P' d' n' H' L')))))) else ae (PX.exit 4,S.mk 98 JB (ZcI g o na np nh nl f c A P d n H L)))=(fb [] [(95,qgZ)] [] 61 20 (qg2 g o f c d n na np nh nl A P H L i)) ae:=by kernel_rfl
def Fx(g:List ak):av->Option Bool:=(g.flatMap (·.ops)).foldl rH (λ_=>none)
def WH:S->K (PX×S):=λs ae=> ∃g o f c,s=qg2 g o f c noD 0 0 0 0 0 [] [] [] [] 0/\(I9 f o/\g.length<=1000000/\ ∀x∈g,cy x=true)/\ ∀d n na np nh nl A P H L,r8 (jQ o g) na np nh nl A P H L->mq d (Fx g)->ae (.exit 4,⟨98,[(3,.ref 0 0 0)],vwL g o f c d n na np nh nl A P H L⟩)
def ZcL(g:List ak)(o:List ay)(Bh:D->Option D)(Fl:Int):S:=S.mk 98 [cE,(87,vd g),(88,Bi g),(89,P.d Z7)] (ZcF g o::Dn g::(2,pc o)::(3,B3 Bh Fl)::ZcG)
def ZcK(aU:List ay)(bq:List ak):S:=S.mk 98 [cE,(71,Dt aU),(72,P.d (D.int .i64 (↑(dv aU):Int))),(73,P.d Z7)] (ZcF bq aU::Dn bq::(2,pc aU)::Zcs::ZcG)
def ZcJ(au:List ak):S:=S.mk 98 [cE,Zcm,(5,P.sl 10 0 0),(6,P.sl 11 0 0),(20,ct au),(21,Fb au),(22,P.d Z7)] [(0,En.mk 0 none (Obj.box (120:TypeId) (rE::Zcq))),(1,Rf),xb,Zcs,WC,WB,WA,Wz,Wy,(9,PW),(10,vX),(11,vX)]
theorem ql1(l:List ak)(ae:P×List (Nat×En)->Prop):(∃(au:List ak),ZcJ l=ZcJ au/\lY au/\ ∀(g:List ak) (h:List Hd),g=aw au->h=List.map eC g-> ∃(l:List Hd),[P.d (D.sl 2 (List.take (fR h) (oq h))),P.d (D.sl 2 (List.take (fR h) (qM h)))]=Z7X l/\Zo/\pZ l/\ ∀(o:List ay),o=AW l-> ∃(bq:List ak) (aU:List ay),ZcK o g=ZcK aU bq/\kQ aU/\ ∀(f:D->Option D) (c:Int),I9 f aU-> ∃(g:List ak) (o:List ay) (Bh:D->Option D) (Fl:Int),ZcL bq aU f c=ZcL g o Bh Fl/\(I9 Bh o/\iR g/\Zb2 g)/\ ∀(d:D->Option D) (n:Int) (na np nh nl:Nat) (A P H L:List D),r8 (jQ o g) na np nh nl A P H L->mq d (Fx g)->ae (bP,ZcI g o na np nh nl Bh Fl A P d n H L))=(sM [] [(94,qgb)] [(5,ah (aK 61 5) qg0),(15,ah (aK 61 15) WE),(20,ah (aK 61 20) WH)] 61 [bp l] []) ae:=by kernel_rfl
def qg3:bg:=λps R ae=> ∃l,ps=[bp l]/\R=[]/\lY l/\ ∀g o f c d n na np nh nl A P H L,g=aw l->o=fP l->I9 f o->r8 (jQ o g) na np nh nl A P H L->mq d (Fx g)->ae (.ref 0 0 0,vwL g o f c d n na np nh nl A P H L)
theorem qjX(l:List ak)(ae:P×List (Nat×En)->Prop):(∃(au:List ak),jl l=jl au/\Zo/\lY au/\ ∀(g:List ak) (o:List ay) (f:D->Option D) (_:Int) (d:D->Option D) (_:Int) (na np nh nl:Nat) (A P H L:List D),g=aw au->o=fP au->I9 f o->r8 (jQ o g) na np nh nl A P H L->mq d (Fx g)->ae (w5 o,Qa o))=(sM [] [(61,qg3)] [] 35 [bp l] []) ae:=by kernel_rfl
theorem Fy: ∀{l:List ak},(∀g∈l,cy g=true)->cG l<=200*l.length
 | [],_=>by simp[lV]
 |g::r,h=>by have h1:=Fy (l:=r) λx hx=>h x (.tail _ hx);have h2:=uv (h g (.head _));rw[fQ,zao];omega
theorem I9.none:I9 noD []:=λs=>by rw[zan (by simp)]
theorem I9.go{f:D->Option D}{o:List ay}{i:Nat}(hi:i<o.length)(h:I9 f (o.take i)):I9 (λk'=>bif D.pg (bh o[i]) k' then some (.agg []) else f k') (o.take (i+1)):=λs=>by
 show(bif D.pg (bh o[i]) (bh s) then some (D.agg []) else f (bh s))=_;rw[V3,h s,zae hi];by_cases hs:o[i]=s
 ·subst hs;rw[show(o[i]==o[i])=true by simp];show some (D.agg [])=_;rw[zap (zbc _ (.head _))]
 rw[show(o[i]==s)=false by simpa using hs];show(if s∈o.take i then some (D.agg []) else Option.none)=_;by_cases hm:s∈o.take i
 ·rw[zap hm,zap (zbn _ hm)]
 rw[zan hm,zan (λhh=>(zay.1 hh).elim hm λh2=>hs (za0.1 h2).symm)]
theorem Qv{g:List ak}{i:Nat}(hi:i<g.length):Fx (g.take (i+1))=g[i].ops.foldl rH (Fx (g.take i)):=by unfold Fx;rw[zae hi,za9,za7];simp
theorem isU:cw PR 167 (.agg [])=true:=by kernel_rfl
section
variable{X:XF}{w0:World}(hX:dw PR w0 X.cf)
include hX
theorem qjY:ND w0 95 qgZ:=ND.mk hX (H:=[]) (HN:=[]) (hk:=[(3,ah (aK 95 3) qgD)]) Gb (by kernel_rfl) (by kernel_rfl) .nil .nil (.loop (by decide) (qjK hX).T .nil) (by
 intro ps R ae hh;obtain⟨x,g,o,f,c,d,n,na,np,nh,nl,A,P,H,L,t,N,e,g1,g2,hc,hp⟩:=hh
 (rw[g1,g2,<-qlQ];delta jA Zap Du Dv Ds dv Dt dn vd JL Z63 dV Wc pX kz kA iO kB kg gY kh iy yg ve uI uJ nX dq nY cg nZ Wd AF Z7 xA Wa Wb Zaq Rh bP u5)
 have hf:f (D.agg [D.int .i64 x.s.1,D.int .i64 x.s.2])=if x.s∈o then some (.agg []) else none:=hc.1 x.s
 rw[hf];by_cases hm:x.s∈o
 ·rw[zap hm];exact aq isU ⟨x,g,o,f,c,d,n,na,np,nh,nl,A,P,H,L,true,t,N,e,rfl,hc.2,λd' n' pO pP pQ cL A' P' H' L' g1 g2=>hp d' n' pO pP pQ cL A' P' H' L' (by unfold Jx;rw[zaY hm];exact g1) g2⟩
 rw[zan hm];exact aq isU ⟨x,g,o,f,c,d,n,na,np,nh,nl,A,P,H,L,false,t,N,e,rfl,hc.2,λd' n' pO pP pQ cL A' P' H' L' g1 g2=>hp d' n' pO pP pQ cL A' P' H' L' (by unfold Jx;rw[zaO hm];exact g1) g2⟩)
theorem qjZ:LN w0 61 5 (ah (aK 61 5) qg0):=LN.idx hX (H:=[(51,IG)]) (HN:=[]) (hk:=[]) Gb (by kernel_rfl) (by kernel_rfl) (by kernel_rfl) (.cons qdt .nil) .nil .nil
 (A:=List ak) (B:=List ak×List ay×Int) (λl b i=>vo5 l b.1 (b.1.map eC) (cM b.2.1) b.2.2 i) (λl=>l.length) (λl i b=>lY l/\b.1=aw (l.take i)/\xC b.2.1 b.1/\b.2.1.length<=i)
 (λl x=>x=(.exit 0,qjW (aw l) ((aw l).map eC)))
 (by
  rintro l ⟨o,U,c⟩ i ae h0 bK aQ ⟨hs,rfl,hU,PY⟩ hn ho;dsimp only at*
  (rw[<-qdU];delta oq Ww qM Wx Zt cg gT la pz pA tA fR ZcE Yv ZcD F9 B2 dn Z6H Ds Zcp Zcq NL ZA gi Fb ct Zcn Zcm bP cE ZcC ZcB Z6G Z7 Z6I Z6J Z6C Za Z9 Z6B ZcA B3 Gd Wy Wz WA ya WB JK WC PW Zcs vX xb tv Dn vd Zcr Zco Zw Z6n Zo kz kA iO kB kg gY kh iy jz Re dM iC nv)
  have e1:D.nth (l.map aR) i.toNat=aR l[i.toNat]:=ax _ _ _ aQ;rw[e1];have hsg:=hs.2 _ (zaq aQ);have uF:=qL aQ;have k9:=dP (l.take i.toNat);rw[zas] at k9;generalize l[i.toNat]=g at uF hsg;have rv:=hs.1;have t1:D.agg [D.int .i64 (D.aj (D.ar (aR g) 0)),D.int .i64 (D.aj (D.ar (aR g) 1))]=bh g.s:=rfl;have v1: ∀n:Int,D.aj (iE n)=n:=λ_=>rfl;have g0:cJ (cM U (bh g.s)) (.int .i64 0)=iE (U.count g.s:Int):=qK U g.s;have GQ:=zb4 (a:=g.s) (l:=U);have u2:=λz=>Fa U g.s z;have u3:=λz=>E9 U g.s z;have g1:cJ (cM (g.s::U) (bh g.s)) (.int .i64 0)= .int .i64 ((U.count g.s:Int)+1):=by have:=qK (g.s::U) g.s;rw[zcp] at this;exact this
  have BO:(U.count g.s:Int)=0↔ ¬g.s∈U:=by rw[<-zc7];omega
  have hcb:0<=(U.count g.s:Int)/\(U.count g.s:Int)<=1000000:=by have:=hs.1;omega
  generalize (U.count g.s:Int)=cn at g0 u2 u3 g1 BO hcb;rw[t1,g0];simp only[v1];have dt:i<((l.map aR).length:Int):=by rw[zaa];exact bK
  refine bn dt (ao ⟨h0,dt⟩ (aq (fh _) ⟨g,rfl,rfl,hsg,λe he=>zU (λh1=>ao (by omega) (hn (aw (l.take i.toNat),U,c) ⟨hs,?_,hU,zc9 PY⟩)) λh1=> ?_⟩))
  ·rw[uF,Fc];cases hg:cy g with
   |false=>rfl
   |true=>rw[hg] at he;exact absurd he h1
  have hg:cy g=true:=by
   cases hg:cy g with
   |true=>rfl
   |false=>rw[hg,zan (by simp)] at he;omega
  refine aq (B4 _) (ao (by omega) ?_);rw[u2,g1,u3];refine aq (B4 _) ?_;have v2: ∀n:Int,D.aj (D.int .i64 n)=n:=λ_=>rfl;simp only[v2];refine cr (λh2=>ao (by omega) (hn (aw (l.take i.toNat),g.s::U,_) ⟨hs,?_,hU.had ?_,zca PY⟩)) λh2=> ?_
  ·have hx:g.s∈U:=zaN λh=>by have:=BO.2 h;omega
   rw[uF,As ((hU g.s).1 hx)]
  ·exact zaN λh=>by have:=BO.2 h;omega
  have hx: ¬g.s∈U:=BO.1 (by omega);have uX:((aw (l.take i.toNat)).any λx=>x.s==g.s)=false:=by rw[<-zaQ,<-hU g.s];exact hx
  have hy:=λc':Int=>hn (aw (l.take i.toNat)++[g],g.s::U,c') ⟨hs,by rw[uF,Au hg uX],hU.new,zca PY⟩;generalize aw (l.take i.toNat)=r at*
  have p0:List.take r.length (r.map aR)++[aR g]=(r++[g]).map aR:=bO aR r g;have p1:List.take (r.map eC).length (((r.map eC).map λx=>x.1).map bh)++[bh g.s]=(((r++[g]).map eC).map λx=>x.1).map bh:=by rw[zal (by simp)];simp[eC]
  have p2:List.take (r.map eC).length (((r.map eC).map λx=>x.2).map bh)++[bh g.bs]=(((r++[g]).map eC).map λx=>x.2).map bh:=by rw[zal (by simp)];simp[eC]
  have q0:(r++[g]).length=r.length+1:=by simp
  have q1:((r++[g]).map eC).length=(r.map eC).length+1:=by simp
  simp only[vo5,vw0,vwL,vwB,pb,mL] at hy;rw[<-p0,<-p1,<-p2,q0,q1] at hy;have hrl:(r.map eC).length<=1000000:=by rw[zaa];omega
  have rm: ∀{α:Type} (f:α->D) (m:List α) (z:D) (b:Nat),m.length<=1000000->b<=100->(Nat.ble m.length (m.map f).length&&aI (m.length+List.length [z]) b)=true:=λf m z b hm hb=>c8 rfl (by rw[zaa]) (by omega) hb;have rm1:(Nat.ble (r.map eC).length (((r.map eC).map λx=>x.1).map bh).length&&aI ((r.map eC).length+List.length [bh g.s]) 16)=true:=c8 rfl (by simp) (by omega) (by decide);have rm2:(Nat.ble (r.map eC).length (((r.map eC).map λx=>x.2).map bh).length&&aI ((r.map eC).length+List.length [bh g.bs]) 16)=true:=c8 rfl (by simp) (by omega) (by decide);exact aq (rm aR r _ 88 (by omega) (by decide)) (aq rm1 (aq rm2 (ao (by omega) (hy _)))))
 (by
  rintro l ⟨o,U,c⟩ i ae hi ⟨hs,rfl,hU,PY⟩ ho;dsimp only at*
  (rw[<-qdU];delta oq Ww qM Wx Zt cg gT la pz pA tA fR ZcE Yv ZcD F9 B2 dn Z6H Ds Zcp Zcq NL ZA gi Fb ct Zcn Zcm bP cE ZcC ZcB Z6G Z7 Z6I Z6J Z6C Za Z9 Z6B ZcA B3 Gd Wy Wz WA ya WB JK WC PW Zcs vX xb tv Dn vd Zcr Zco Zw Z6n Zo kz kA iO kB kg gY kh iy jz Re dM iC nv)
  refine jU (by rw[zaa];omega) (ho _ (λh=>by cases h) ?_);rw[zaj];rfl)
 (by rintro s ae ⟨l,rfl,hs,hp⟩;refine⟨l,([],[],0),by rw[E8];rfl,⟨hs,rfl,xC.nil,by simp⟩,?_⟩;rintro x rfl;exact hp _ _ rfl rfl)
theorem qg4:LN w0 61 15 (ah (aK 61 15) WE):=LN.idx hX (H:=[]) (HN:=[]) (hk:=[]) Gb (by kernel_rfl) (by kernel_rfl) (by kernel_rfl) .nil .nil .nil
 (A:=List ak×List ay) (B:=(D->Option D)×Int) (λa b i=>qg1 a.1 a.2 b.1 b.2 i) (λa=>a.2.length) (λa i b=>a.2.length<=1000000/\I9 b.1 (a.2.take i))
 (λa x=> ∃f c,I9 f a.2/\x=(.exit 2,⟨98,[(3,.ref 0 0 0)],vw0 a.1 a.2 f c⟩))
 (by
  rintro⟨g,o⟩ ⟨f,c⟩ i ae h0 bK aQ ⟨hm,hO⟩ hn ho;dsimp only at*
  (rw[<-WD];delta B3 bP cE JB Gd Wy Wz WA ya WB JK WC ZcG Zt dq Iz F5 IA pc cg tv Dn Ds Zcp dv Dt dn vd ZcF ZA Za Z9 Zw u7 NV)
  have e1:D.nth (o.map bh) i.toNat=bh o[i.toNat]:=ax _ _ _ aQ;have nk:=hO.go aQ;rw[e1];refine bn bK (ao ⟨h0,bK⟩ (ao (by simpa using aQ) (aq (jM _) (ao (by omega) (hn (_,_) ⟨hm,nk⟩))))))
 (by
  rintro⟨g,o⟩ ⟨f,c⟩ i ae hi ⟨hm,hO⟩ ho;dsimp only at*
  (rw[<-WD];delta B3 bP cE JB Gd Wy Wz WA ya WB JK WC ZcG Zt dq Iz F5 IA pc cg tv Dn Ds Zcp dv Dt dn vd ZcF ZA Za Z9 Zw u7 NV)
  rw[zaj] at hO;exact jU (by omega) (ho _ (λh=>by cases h) ⟨f,c,hO,rfl⟩))
 (by rintro s ae ⟨g,o,rfl,hm,hp⟩;refine⟨(g,o),(noD,0),rfl,⟨hm,I9.none⟩,?_⟩;rintro x ⟨f,c,h1,rfl⟩;exact hp f c h1)
theorem qg5:LN w0 61 20 (ah (aK 61 20) WH):=LN.idx hX (H:=[]) (HN:=[(95,qgZ)]) (hk:=[]) Gb (by kernel_rfl) (by kernel_rfl) (by kernel_rfl) .nil (.cons (qjY hX) .nil) .nil
 (A:=List ak×List ay×(D->Option D)×Int) (B:=GaB) (λa b i=>qg2 a.1 a.2.1 a.2.2.1 a.2.2.2 b.1 b.2.1 b.2.2.1 b.2.2.2.1 b.2.2.2.2.1 b.2.2.2.2.2.1 b.2.2.2.2.2.2.1 b.2.2.2.2.2.2.2.1 b.2.2.2.2.2.2.2.2.1 b.2.2.2.2.2.2.2.2.2 i) (λa=>a.1.length)
 (λa i b=>(I9 a.2.2.1 a.2.1/\a.1.length<=1000000/\ ∀x∈a.1,cy x=true)/\r8 (jQ a.2.1 (a.1.take i)) b.2.2.1 b.2.2.2.1 b.2.2.2.2.1 b.2.2.2.2.2.1 b.2.2.2.2.2.2.1 b.2.2.2.2.2.2.2.1 b.2.2.2.2.2.2.2.2.1 b.2.2.2.2.2.2.2.2.2/\mq b.1 (Fx (a.1.take i)))
 (λa x=> ∃d n na np nh nl A P H L,r8 (jQ a.2.1 a.1) na np nh nl A P H L/\mq d (Fx a.1)/\x=(.exit 4,⟨98,[(3,.ref 0 0 0)],vwL a.1 a.2.1 a.2.2.1 a.2.2.2 d n na np nh nl A P H L⟩))
 (by
  rintro⟨g,o,f,c⟩ ⟨d,n,na,np,nh,nl,A,P,H,L⟩ i ae h0 bK aQ ⟨hc,hR,hD⟩ hn ho;dsimp only at*
  (rw[<-WG];delta bP cE JB jA Zap Du uI Dv uJ B3 dq pc cg tv Dn Wd Ds dv Dt dn vd ZcI ZA l4 Bi Za Z9 Zw JL Z63 ve nX nY nZ AF ZcH kz kA iO kB kg gY kh iy jz Zt gT F9 la pz pA B2 Re dM gi sT u9 Ga)
  have hB:=wU (on:=o) hc.2.2 i.toNat (by omega);have hN:cG (g.take i.toNat)<=300000000:=by have h1:=nS g i.toNat;have h2:=Fy hc.2.2;have h3:=hc.2.1;omega
  have e1:D.nth (g.map aR) i.toNat=aR g[i.toNat]:=ax _ _ _ aQ;have nq:=hc.2.2 _ (zaq aQ);have iv:=uq (on:=o) aQ;have Qk:=Qv aQ;rw[e1];generalize g[i.toNat]=x at nq iv Qk⊢;refine bn bK (ao ⟨h0,bK⟩ (ao (by simpa using aQ) (aq (fh _) ⟨x,g,o,f,c,d,n,na,np,nh,nl,A,P,H,L,_,_,_,rfl,rfl,⟨hc.1,hR,hD,hB,hN,uv nq,uu nq⟩,λd' n' pO pP pQ cL A' P' H' L' g1 g2=>ao (by omega) (hn (d',n',pO,pP,pQ,cL,A',P',H',L') ⟨hc,by rw[iv];exact g1,by rw[Qk];exact g2⟩)⟩))))
 (by
  rintro⟨g,o,f,c⟩ ⟨d,n,na,np,nh,nl,A,P,H,L⟩ i ae hi ⟨hc,hR,hD⟩ ho;dsimp only at*
  (rw[<-WG];delta bP cE JB jA Zap Du uI Dv uJ B3 dq pc cg tv Dn Wd Ds dv Dt dn vd ZcI ZA l4 Bi Za Z9 Zw JL Z63 ve nX nY nZ AF ZcH kz kA iO kB kg gY kh iy jz Zt gT F9 la pz pA B2 Re dM gi sT u9 Ga)
  rw[zaj] at hR hD;exact jU (by omega) (ho _ (λh=>by cases h) ⟨d,n,na,np,nh,nl,A,P,H,L,hR,hD,rfl⟩))
 (by rintro s ae ⟨g,o,f,c,rfl,hc,hp⟩;refine⟨(g,o,f,c),(noD,0,0,0,0,0,[],[],[],[]),rfl,⟨hc,⟨rfl,rfl,rfl,rfl,rfl,rfl,rfl,rfl⟩,λz=>rfl⟩,?_⟩;rintro x ⟨d,n,na,np,nh,nl,A,P,H,L,g1,g2,rfl⟩;exact hp d n na np nh nl A P H L g1 g2)
theorem qj0:ND w0 61 qg3:=ND.mk hX (H:=[]) (HN:=[(94,qgb)]) (hk:=[(5,ah (aK 61 5) qg0),(15,ah (aK 61 15) WE),(20,ah (aK 61 20) WH)]) Gb (by kernel_rfl) (by kernel_rfl) .nil (.cons (qlC hX) .nil) (.loop (by decide) (qjZ hX).T (.loop (by decide) (qg4 hX).T (.loop (by decide) (qg5 hX).T .nil))) (by
 intro ps R ae hh;obtain⟨l,rfl,rfl,hs,hp⟩:=hh
 (rw[<-ql1];delta jA Zap Du uI Dv uJ B3 dq pc cg tv Dn Wd Ds dv Dt dn vd ZcI bP Zb2 iR Gd Wy Wz WA ya WB JK WC ZcG Zcp ZcF Z7 l4 Bi cE ZcL kQ PW Zcs ZcK fR pZ Zo qM oq Z7X vX xb Rf Zcq rE gi Fb ct Zcm ZcJ)
 have hl:=hs.1;have h1:=uL l;have h2:=dP l;refine⟨l,rfl,hs,λg h hg hh=> ?_⟩;have tk1:List.take h.length ((h.map λx=>x.1).map bh)=(h.map λx=>x.1).map bh:=zal (by simp);have tk2:List.take h.length ((h.map λx=>x.2).map bh)=(h.map λx=>x.2).map bh:=zal (by simp);rw[tk1,tk2];refine⟨h,rfl,rfl,by rw[hh,zaa,hg];omega,λo ho=> ?_⟩;have ff:o=fP l:=by rw[ho,hh,hg];rfl
 exact⟨g,o,rfl,by rw[ff];omega,λf c hf=>⟨g,o,f,c,rfl,⟨hf,by rw[hg];omega,by rw[hg];exact gI⟩,λd n na np nh nl A P H L g1 g2=>hp g o f c d n na np nh nl A P H L hg ff hf g1 g2⟩⟩)
theorem qdV:ND w0 35 LP:=ND.mk hX (H:=[]) (HN:=[(61,qg3)]) (hk:=[]) Gb (by kernel_rfl) (by kernel_rfl) .nil (.cons (qj0 hX) .nil) .nil (by
 intro ps R ae hh;obtain⟨l,rfl,rfl,hs,hp⟩:=hh
 (rw[<-qjX];delta dq pc Qa dv w5 Zo cg ct jl)
 exact⟨l,rfl,rfl,hs,λg o f c d n na np nh nl A P H L _ ho _ _ _=>hp o ho⟩)
end
theorem WI{l:List ak}{t:Tl}(hc: ∀g∈l,cy g=true)(hn:(l.map (·.s)).Nodup):(sW l t).length<=t.a.length:=
 zaE (uA hc hn _) (zaE (uz _) (rf _ _))
section
variable{X:XF}
theorem qcw:LD X 32 7 (ah (aK 32 7) qgY):=LD.idx (H:=[(42,IV)]) (hk:=[(11,ah (aK 32 11) Wo)]) (by kernel_rfl) (by kernel_rfl) (.cons VB .nil) (.cons Wt .nil)
 (A:=List ak×List ay) (B:=OfB) (λa b i=>of7 a.1 a.2 b.1 b.2.1 b.2.2.1 b.2.2.2.1 b.2.2.2.2.1 b.2.2.2.2.2.1 b.2.2.2.2.2.2.1 b.2.2.2.2.2.2.2 i) (λa=>a.1.length)
 (λa i b=>(a.1.length<=1000000/\a.2.length<=1000000/\ ∀g∈a.1,cy g=true)/\r8 (jQ a.2 (a.1.take i)) b.1 b.2.1 b.2.2.1 b.2.2.2.1 b.2.2.2.2.1 b.2.2.2.2.2.1 b.2.2.2.2.2.2.1 b.2.2.2.2.2.2.2)
 (λa x=> ∃na np nh nl A P H L,r8 (jQ a.2 a.1) na np nh nl A P H L/\x=(.exit 0,⟨140,[(0,.sl 0 0 a.1.length),(2,.ref 1 0 0),(3,.ref 7 0 0),(4,.sl 13 0 na),(5,.sl 14 0 np)],ofR a.1 a.2 nh nl A P H L⟩))
 (by
  rintro⟨m,o⟩ ⟨na,np,nh,nl,A,P,H,L⟩ i ae h0 bK aQ ⟨hc,hR⟩ hn ho
  try dsimp only at*
  (rw[<-qdS];delta ZA ZL Za Z9 Zw JL Du Dv QZ Qn jA Qo ya I5 dq pc I6 Zbp Wj Wk dv Qp Gc Gd Ge Gf Gg vX xb Gh cg Gj LM Z7 tu dV uy Zk Zm ZS Gk Gl B7 iN B8 dn lZ pB Fu kQ P9 Bd iP iQ nb jy Zt gT la pz pA tA IJ w5 dM gi sT l4 u9 Ga)
  have hB:=wU (on:=o) hc.2.2 i.toNat (by omega);have hN:cG (m.take i.toNat)<=300000000:=by have h1:=nS m i.toNat;have h2:=Fy hc.2.2;have h3:=hc.1;omega
  have e1:D.nth (m.map aR) i.toNat=aR m[i.toNat]:=ax _ _ _ aQ;have nq:=hc.2.2 _ (zaq aQ);have iv:=uq (on:=o) aQ;rw[e1];refine bn bK (ao ⟨h0,bK⟩ (ao (by rw[zaa];exact aQ) (aq (fh _) ⟨o,m[i.toNat].s,rfl,rfl,hc.2.1,λb hb=>⟨m,o,na,np,nh,nl,A,P,H,L,i,b,_,_,aQ,rfl,⟨hR,hB,hN,h0,uv nq,uu nq⟩,λpO pP pQ cL A' P' H' L' g1=>ao (by omega) (hn (pO,pP,pQ,cL,A',P',H',L') ⟨hc,by rw[iv];unfold Jx;rw[<-hb];exact g1⟩)⟩⟩))))
 (by
  rintro⟨m,o⟩ ⟨na,np,nh,nl,A,P,H,L⟩ i ae hi ⟨hc,hR⟩ ho
  try dsimp only at*
  (rw[<-qdS];delta ZA ZL Za Z9 Zw JL Du Dv QZ Qn jA Qo ya I5 dq pc I6 Zbp Wj Wk dv Qp Gc Gd Ge Gf Gg vX xb Gh cg Gj LM Z7 tu dV uy Zk Zm ZS Gk Gl B7 iN B8 dn lZ pB Fu kQ P9 Bd iP iQ nb jy Zt gT la pz pA tA IJ w5 dM gi sT l4 u9 Ga)
  rw[zaj] at hR;exact jU (by omega) (ho _ (λh=>by cases h) ⟨na,np,nh,nl,A,P,H,L,hR,rfl⟩))
 (by rintro s ae ⟨m,o,rfl,hc,hp⟩;refine⟨(m,o),(0,0,0,0,[],[],[],[]),rfl,⟨hc,⟨rfl,rfl,rfl,rfl,rfl,rfl,rfl,rfl⟩⟩,?_⟩;rintro x ⟨na,np,nh,nl,A,P,H,L,g1,rfl⟩;exact hp na np nh nl A P H L g1)
theorem WJ:FD X 32 I8:=FD.mk (H:=[(40,uD),(44,VM),(53,VS),(55,qgO),(54,Wh),(57,Vz),(56,ER)]) (hk:=[(7,ah (aK 32 7) qgY)]) (by kernel_rfl) (.cons IK (.cons qdD (.cons qdE (.cons qjQ (.cons qgT (.cons qgj (.cons Uh .nil))))))) (.cons qcw .nil) (by
 intro ps R ae hh;obtain⟨l,rfl,rfl,hs,hp⟩:=hh
 (rw[<-ql0];delta dq dv N6 jR Ij fg fF Qs Qu Dm vY Zb2 dn iR Zb4 cg ct gh LS nu iG gJ kQ ya JK QZ Qn Gd I5 pc I6 Wj Wk Gc Ge Gf Gg vX xb Gh Gj Z7 JE B7 iN B8 lZ pB Zca fR pZ LA Z7Z Zce Zo jl)
 have hl:=hs.1.1;have h1:=uL l;have h2:=dP l;have nq: ∀g∈aw l,cy g=true:=gI;have kY:=im l;have lW:cG (aw l)<=1000:=zaE (KX l) hs.2;refine⟨l,rfl,rfl,hs.1,λm hm=> ?_⟩;have tm:List.take m.length (m.map aR)=m.map aR:=zal (by simp);rw[tm];refine⟨m,rfl,rfl,by rw[hm];omega,λh hh=> ?_⟩;have th:List.take h.length (h.map bM)=h.map bM:=zal (by simp);rw[th];refine⟨h,rfl,rfl,by rw[hh,zaa,hm];omega,λo ho=> ?_⟩;have ff:o=fP l:=by rw[ho,hh,hm];rfl
 refine⟨m,o,rfl,⟨by rw[hm];omega,by rw[ff];omega,by rw[hm];exact nq⟩,λna np nh nl A P H L hR=> ?_⟩;have hB:=wU (on:=o) (l:=m) (by rw[hm];exact nq) m.length (zak _);rw[zaj,hm] at hB;have kT:=hB.mono lW;rw[hm] at hR;obtain⟨t,ht⟩: ∃t,t=jQ o (aw l):=⟨_,rfl⟩
 rw[<-ht] at hR kT;obtain⟨rfl,rfl,rfl,rfl,rfl,rfl,rfl,rfl⟩:=hR;have ta:List.take t.a.length (t.a.map bV)=t.a.map bV:=zal (by simp);have tp:List.take t.p.length (t.p.map eB)=t.p.map eB:=zal (by simp);have thh:List.take t.h.length (t.h.map iH)=t.h.map iH:=zal (by simp);have tg:List.take t.g.length (t.g.map iH)=t.g.map iH:=zal (by simp);have tn:List.take o.length (o.map bh)=o.map bh:=zal (by simp);have tk: ∀{α:Type} (f:α->D) (l:List α),List.take l.length (l.map f)=l.map f:=λf l=>zal (by simp);have b1:=kT.1;have b2:=kT.2.1;have b3:=kT.2.2.1;have b4:=kT.2.2.2;rw[ta,tp,thh,tg,tn,tm];refine⟨t.a,t.p,rfl,rfl,⟨by omega,b1.symm⟩,λq hq=> ?_⟩;rw[tk eB q];have hql:q.length<=t.a.length:=by rw[hq];exact zaE (uz _) (rf _ _)
 refine⟨m,q,rfl,rfl,⟨by omega,by rw[hm];omega,by rw[hm];exact nq,by rw[hm];exact kY⟩,λp R4=>⟨t.h,t.g,rfl,rfl,⟨by omega,by omega⟩,λv hv=> ?_⟩⟩;rw[tk eB p,tk bV v];have Ys:p=sW (aw l) t:=by rw[R4,hq,hm];rfl
 have DV:p.length<=t.a.length:=by rw[Ys];exact WI nq kY
 have hvl:v.length<=t.h.length:=by rw[hv];exact Ns _ _
 refine⟨p,v,rfl,rfl,⟨by omega,by omega⟩,?_⟩;rw[tk ew];exact hp o t p (iu (pw p) v) ff ht Ys (by rw[Ys,hv];rfl))
end
abbrev bx:=av×av×List UInt8
abbrev bB:=av×av×List UInt8
def n0(t:List UInt8):List (List UInt8):=if Lib.validD t=true then JG t else []
def Br(r:bx)(k:Nat):av:=(r.2.1.1,r.2.1.2.1,r.2.1.2.2+k)
def elA(r:bx):Nat->av
 |0=>r.1
 |k+1=>Br r k
def Rj(o:List bB)(x a:av)(p:List UInt8):List bB:=if x=aB\/(o.any λe=>e.1==x)=true then o else o++[(x,a,p)]
def JM(r:bx)(o:List bB)(l:List (List UInt8)):List bB:=l.zipIdx.foldl (λo p=>Rj o (Br r p.2) (elA r p.2) p.1) o
def elR(o:List bB)(r:bx):List bB:=JM r o (n0 r.2.2)
def uM(l:List bx):List bB:=l.foldl elR []
theorem uN{r:bx}{o:List bB}{l:List (List UInt8)}{i:Nat}(h:i<l.length):JM r o (l.take (i+1))=Rj (JM r o (l.take i)) (Br r i) (elA r i) l[i]:=by unfold JM;rw[zae h,zc6,za7];simp[zas,zcq (Nat.le_of_lt h)]
theorem uO{l:List bx}{i:Nat}(h:i<l.length):uM (l.take (i+1))=elR (uM (l.take i)) l[i]:=by unfold uM;rw[zae h,za7];rfl
theorem qcx(o:List bB)(x a:av)(p:List UInt8):(Rj o x a p).length<=o.length+1:=by
 unfold Rj;split
 ·omega
 simp
theorem Fz{r:bx}{o:List bB}{l:List (List UInt8)}: ∀i,i<=l.length->(JM r o (l.take i)).length<=o.length+i
 |0,_=>by simp[JM]
 |i+1,hi=>by rw[uN (by omega)];have:=qcx (JM r o (l.take i)) (Br r i) (elA r i) (l[i]'(by omega));have:=Fz (r:=r) (o:=o) (l:=l) i (by omega);omega
def Ja(R:List bx)(o:List bB):Prop:=(o.map (·.1)).Nodup/\ ∀e∈o,e.1≠aB/\ ∃r∈R,∃k,k<(n0 r.2.2).length/\e.1=Br r k/\e.2.1=elA r k
theorem Ja.step{R:List bx}{o:List bB}(h:Ja R o){r:bx}(hr:r∈R){k:Nat}(hk:k<(n0 r.2.2).length)(p:List UInt8):Ja R (Rj o (Br r k) (elA r k) p):=by
 unfold Rj;split
 ·exact h
 rename_i hn;refine⟨?_,λe he=> ?_⟩
 ·rw[zau,za6];refine⟨h.1,by simp,λa ha b hb e=> ?_⟩;rw[show b=Br r k by simpa using hb] at e;obtain⟨y,hy,hye⟩:=zaB.1 ha;exact hn (.inr (zbo.2 ⟨y,hy,by simpa using hye.trans e⟩))
 rcases zay.1 he with he |he
 ·exact h.2 e he
 rw[za0.1 he];exact⟨λe=>hn (.inl e),r,hr,k,hk,rfl,rfl⟩
theorem Ja.run{R:List bx}{o:List bB}(h:Ja R o){r:bx}(hr:r∈R): ∀i,i<=(n0 r.2.2).length->Ja R (JM r o ((n0 r.2.2).take i))
 |0,_=>by simpa [JM] using h
 |i+1,hi=>by rw[uN (by omega)];exact(Ja.run h hr i (by omega)).step hr (by omega) _
theorem AJ{l:List bx}: ∀i,i<=l.length->Ja l (uM (l.take i))
 |0,_=>⟨by simp[uM],λe he=>by simp[uM] at he⟩
 |i+1,hi=>by rw[uO (by omega)];have:=(AJ (l:=l) i (by omega)).run (zaq (show i<l.length by omega)) (n0 (l[i]'(by omega)).2.2).length (zak _);rwa [zaj] at this
def JN(l:List bx):Nat:=(l.map λr=>(n0 r.2.2).length).sum
theorem Dx{l:List bx}{i:Nat}(h:i<l.length):JN (l.take (i+1))=JN (l.take i)+(n0 l[i].2.2).length:=by unfold JN;rw[zae h,zau,List.sum_append];simp only[zbg,zdd,List.sum_cons,List.sum_nil,zb0]
theorem WK(l:List bx)(i:Nat):JN (l.take i)<=JN l:=by
 have:JN l=JN (l.take i)+JN (l.drop i):=by unfold JN;rw[<-List.sum_append,<-zau,zbi]
 omega
theorem rn{l:List bx}: ∀i,i<=l.length->(uM (l.take i)).length<=JN (l.take i)
 |0,_=>by simp[uM]
 |i+1,hi=>by rw[uO (by omega),Dx (by omega)];have h1:=rn (l:=l) i (by omega);have h2:=Fz (r:=l[i]'(by omega)) (o:=uM (l.take i)) (l:=n0 (l[i]'(by omega)).2.2) _ (zak _);rw[zaj] at h2;unfold elR;omega
theorem AK{α β:Type}(f:α->β){l:List α}(h:(l.map f).Nodup):l.Nodup:=List.Pairwise.of_map f (λ_ _ h e=>h (congrArg f e)) h
def gtE(a b:bB):Bool:=mh b.1 a.1
def jm(all:List bB)(x:av):List bB:=cm gtE (all.filter λe=>e.2.1==x)
def uP(all:List bB):Nat->List bB->List bB
 |0,_=>[]
 |_+1,[]=>[]
 |n+1,x::w=>x::uP all n (jm all x.1++w)
def wa(all:List bB):List bB:=uP all (all.length+1) (jm all aB)
theorem l6{all:List bB}{x:av}{e:bB}:e∈jm all x↔e∈all/\e.2.1=x:=by unfold jm;rw[(bU _).mem_iff,zbv,zaW]
structure xI(all o w:List bB):Prop where
 nd:((o++w).map (·.1)).Nodup
 sub: ∀e∈o++w,e∈all/\(e.2.1=aB\/ ∃y∈o,y.1=e.2.1)
theorem xI.len{all o w:List bB}(h:xI all o w):o.length+w.length<=all.length:=by have h1:(o++w).Nodup:=AK _ h.nd;have:=h1.length_le_of_subset (l₂:=all) λe he=>(h.sub e he).1;rwa [zah] at this
theorem xI.step{all o w:List bB}{x:bB}(ha:(all.map (·.1)).Nodup)(hr: ∀e∈all,e.1≠aB)(h:xI all o (x::w)):xI all (o++[x]) (jm all x.1++w):=by
 have hx:=h.sub x (zbc _ (.head _));have kY:=h.nd;have e1:o++x::w=o++[x]++w:=by simp
 rw[e1] at kY;have gV: ∀e∈o++[x]++w,e∈all/\(e.2.1=aB\/ ∃y∈o,y.1=e.2.1):=λe he=>h.sub e (by rwa [e1]);have hxo: ∀y∈o,y.1≠x.1:=by intro y hy e;rw[zau,zau,za6] at kY;have:=(za6.1 kY.1).2.2 y.1 (za8 hy) x.1 (by simp);exact this e
 have gl: ∀e∈jm all x.1,e∉o++[x]++w:=by
  intro e he aQ;obtain⟨_,h2⟩:=l6.1 he;rcases(gV e aQ).2 with h3 | ⟨y,hy,h3⟩
  ·exact hr x hx.1 (by rw[<-h2,h3])
  exact hxo y hy (by rw[h3,h2])
 have hb:(jm all x.1).Nodup:=by unfold jm;exact(bU _).nodup_iff.2 (zcb.nodup (AK _ ha))
 have key: ∀L:List bB,L.Nodup->(∀e∈L,e∈all)->(L.map (·.1)).Nodup:=by
  intro L
  induction L with
  |nil=>exact λ_ _=>by simp
  |cons a r ih=>intro h1 h2;rw[zbd] at h1;rw[zbg,zbd];refine⟨λhm=> ?_,ih h1.2 λe he=>h2 e (.tail _ he)⟩;obtain⟨y,hy,e⟩:=zaB.1 hm;have:=lS ha y (h2 y (.tail _ hy)) a (h2 a (.head _)) e;exact h1.1 (this▸hy)
 refine⟨key _ ?_ ?_,?_⟩
 ·have hold:(o++[x]++w).Nodup:=AK _ kY;rw[za6] at hold⊢;refine⟨hold.1,?_,λa ha2 b cu e=> ?_⟩
  ·rw[za6];refine⟨hb,hold.2.1,λa ha2 b cu e=> ?_⟩;subst e;exact gl a ha2 (zbc _ cu)
  subst e;rcases zay.1 cu with cu |cu
  ·exact gl a cu (zbn _ ha2)
  exact hold.2.2 a ha2 a cu rfl
 ·intro e he;rcases zay.1 he with he |he
  ·exact(gV e (zbn _ he)).1
  rcases zay.1 he with he |he
  ·exact(l6.1 he).1
  exact(gV e (zbc _ he)).1
 intro e he;have hold: ∀e,e∈o++[x]++w->e∈all/\(e.2.1=aB\/ ∃y∈o++[x],y.1=e.2.1):=by
  intro e he;obtain⟨h1,h2⟩:=gV e he;refine⟨h1,?_⟩;rcases h2 with h2 | ⟨y,hy,h2⟩
  ·exact .inl h2
  exact .inr ⟨y,zbn _ hy,h2⟩
 rcases zay.1 he with he |he
 ·exact hold e (zbn _ he)
 rcases zay.1 he with he |he
 ·obtain⟨h1,h2⟩:=l6.1 he;exact⟨h1,.inr ⟨x,zbc _ (.head _),h2.symm⟩⟩
 exact hold e (zbc _ he)
theorem xI.start{all:List bB}(ha:(all.map (·.1)).Nodup):xI all [] (jm all aB):=by
 refine⟨?_,λe he=> ?_⟩
 ·rw[zbk];unfold jm;exact((bU _).map _).nodup_iff.2 (List.Nodup.sublist ((zcb).map _) ha)
 rw[zbk] at he;obtain⟨h1,h2⟩:=l6.1 he;exact⟨h1,.inl h2⟩
theorem Dy{all:List bB}(ha:(all.map (·.1)).Nodup)(hr: ∀e∈all,e.1≠aB): ∀(n m:Nat) (o w:List bB),xI all o w->all.length<o.length+n->all.length<o.length+m->uP all n w=uP all m w
 |0,_,o,w,h,hn,_=>by have:=h.len;omega
 |_+1,0,o,w,h,_,hm=>by have:=h.len;omega
 |n+1,m+1,o,w,h,hn,hm=>by
  cases w with
  |nil=>rfl
  |cons x w=>unfold uP;rw[Dy ha hr n m (o++[x]) _ (h.step ha hr) (by simp;omega) (by simp;omega)]
theorem Jb{all:List bB}(ha:(all.map (·.1)).Nodup)(hr: ∀e∈all,e.1≠aB): ∀(n:Nat) (o w:List bB),xI all o w->o.length+(uP all n w).length<=all.length
 |0,o,w,h=>by have:=h.len;simp[uP];omega
 |n+1,o,[],h=>by have:=h.len;simp[uP];simpa using this
 |n+1,o,x::w,h=>by have:=Jb ha hr n (o++[x]) _ (h.step ha hr);simp only[zah,zbl] at this;simp only[uP,zao];omega
theorem bH.known{i:Int}{l:List ak}(h:bH i l)(v:List Int):bH i (aO l v):=
 ⟨λg hg=>h.AZ g (jh.1 hg).1,(zcb.map _).nodup h.nd,λg hg=>h.sm g (jh.1 hg).1,by have:=zaG (λg:ak=>decide (g.n<=eK v g.s.2)) l;have:=h.len;unfold aO;omega⟩
theorem bH.mono{i:Int}{l:List ak}(h:bH i l):bH (i+1) l:=⟨h.AZ,h.nd,λg hg=>by have:=h.sm g hg;grind,by have:=h.len;omega⟩
theorem py.mono{i:Int}{l:List ak}{K:List (List Int)}(h:py i l K):py (i+1) l K:=⟨h.len,λv hv=>⟨(h.vec v hv).1,λr=>by have:=(h.vec v hv).2 r;omega⟩,h.own,h.top⟩
theorem bH.cG{i:Int}{l:List ak}(h:bH i l):Pi.cG l<=l.length:=by
 have key: ∀m:List ak,(∀g∈m,g.ops.length<=1)->Pi.cG m<=m.length:=λm=>by
  induction m with
  |nil=>simp[lV]
  |cons g r ih=>grind [fQ]
 exact key l λg hg=>(h.sm g hg).2.2.1
def FA(x:av)(o:bc):List bx:=if o.kind=3/\o.node=x then [(o.after,o.elem,o.text)] else []
def sX(x:av)(l:List bc):List bx:=l.flatMap (FA x)
def cP(l:List ak)(x:av):List bx:=l.flatMap λg=>sX x g.ops
theorem WL(x:av)(o:bc):(FA x o).length<=1:=by unfold FA;split<;>simp
theorem AL(x:av): ∀l:List bc,(sX x l).length<=l.length
 | []=>zak _
 |o::l=>by have h1:=WL x o;have h2:=AL x l;grind [sX]
theorem wb(x:av): ∀l:List ak,(cP l x).length<=cG l
 | []=>zak _
 |g::l=>by have h1:=AL x g.ops;have h2:=wb x l;grind [cP,fQ]
theorem Jc{l:List ak}{x:av}{r:bx}(h:r∈cP l x): ∃g∈l,∃o∈g.ops,o.kind=3/\r=(o.after,o.elem,o.text):=by obtain⟨g,hg,hr⟩:=zcJ.1 h;obtain⟨o,ho,hr⟩:=zcJ.1 hr;grind [FA]
def Jd(l:List ak)(x:av):List av:=cm mh ((uM (cP l x)).map (·.1))
theorem AN(t:List UInt8):(n0 t).length<=t.length:=by grind [n0,EY]
theorem AO{i:Int}{l:List ak}(hl:bH i l){x y:av}(h:y∈Jd l x):iw l y:=by obtain⟨e,he,rfl⟩:=zaB.1 ((bU _).mem_iff.1 h);have:=(AJ (l:=cP l x) _ (zak _)).2;rw[zaj] at this;obtain⟨_,r,hr,k,hk,h1,_⟩:=this e he;obtain⟨g,hg,o,ho,h3,rfl⟩:=Jc hr;have hp:=AN o.text;have ht:=((hl.sm g hg).2.2.2 o ho).1;rw[h1];exact Uo hl hg ho h3 (Int.natCast_nonneg k) (by grind)
theorem qcy{l:List av}(h:l.Nodup):(cm mh l).Pairwise λa b=>mh a b=true:=by refine((HZ qdm l).and ((bU l).nodup_iff.2 h)).imp λ{a b} QS=> ?_;rw[<-zcG];exact λe=>QS.2 (qdm.nx _ _ e QS.1)
theorem Qw(l:List ak)(x:av):(Jd l x).Pairwise λa b=>mh a b=true:=by have:=(AJ (l:=cP l x) _ (zak _)).1;rw[zaj] at this;exact qcy this
def Rk(g:List aZ)(x:av)(o:List ay)(d:aZ):List ay:=if d.1≠x\/d∈g\/d.2∈o then o else cD jP o d.2
def tX(h g:List aZ)(x:av):List ay:=h.foldl (Rk g x) []
theorem FB{h g:List aZ}{x:av}{i:Nat}(hi:i<h.length):tX (h.take (i+1)) g x=Rk g x (tX (h.take i) g x) h[i]:=by grind [tX,List.take_succ_eq_append_getElem]
structure OfR(h:List aZ)(o:List ay):Prop where
 sub: ∀s∈o,∃d∈h,d.2=s
 qj1:o.Pairwise λa b=>jP a b=true
theorem Qx{o:List ay}(h:o.Pairwise λa b=>jP a b=true){s:ay}(hs:s∉o):(cD jP o s).Pairwise λa b=>jP a b=true:=by
 have hn:(o++[s]).Nodup:=by
  rw[za6];refine⟨h.imp λ{a b} QS e=> ?_,by simp,λa ha b hb e=> ?_⟩
  ·rw[e,iM.Jt] at QS;cases QS
  grind
 refine((M3 iM s (h.imp λ{a b} QS=>iM.asymm QS)).and ((gS o s).nodup_iff.2 hn)).imp λ{a b} QS=> ?_;rw[<-zcG];exact λe=>QS.2 (iM.nx _ _ e QS.1)
theorem OfR.step{h:List aZ}{o:List ay}(ho:OfR h o)(g:List aZ)(x:av){d:aZ}(hd:d∈h):OfR h (Rk g x o d):=by
 unfold Rk;split
 ·exact ho
 rename_i hc;refine⟨λs hs=> ?_,Qx ho.qj1 λhm=>hc (.inr (.inr hm))⟩;rcases zay.1 ((gS o d.2).mem_iff.1 hs) with h1 |h1
 ·exact ho.sub s h1
 grind
theorem qdW{h g:List aZ}{x:av}: ∀i,i<=h.length->OfR h (tX (h.take i) g x)
 |0,_=>⟨λs hs=>by simp[tX] at hs,by simp[tX]⟩
 |i+1,hi=>by rw[FB (by omega)];exact(qdW i (by omega)).step g x (zaq _)
theorem qcz(g:List aZ)(x:av)(o:List ay)(d:aZ):(Rk g x o d).length<=o.length+1:=by grind [Rk,jN]
theorem FE{h g:List aZ}{x:av}: ∀i,i<=h.length->(tX (h.take i) g x).length<=i
 |0,_=>by simp[tX]
 |i+1,hi=>by rw[FB (by omega)];have:=qcz g x (tX (h.take i) g x) (h[i]'(by omega));have:=FE (h:=h) (g:=g) (x:=x) i (by omega);omega
theorem WM{on:List ay}{l:List ak}: ∀i,i<=l.length-> ∀d∈(jQ on (l.take i)).h,∃g∈l,g.s=d.2
 |0,_,d,hd=>by simp[jQ,tl0] at hd
 |i+1,hi,d,hd=>by
  rw[uq (by omega)] at hd;have key: ∀(b:Bool) (s:ay) (m:List bc) (t:Tl),d∈(Ia b s m t).h->d∈t.h\/d.2=s:=by
   intro b s m;have: ∀(m:List (bc×Nat)) (t:Tl),d∈(m.foldl (λt p=>TN b s t p.1 p.2) t).h->d∈t.h\/d.2=s:=by
    intro m
    induction m with
    |nil=>grind
    |cons p m ih=>grind [TN]
   exact λt h=>this _ t h
  rcases key _ _ _ _ hd with h |h
  ·exact WM i (by omega) d h
  grind
theorem qcA{i:Int}{l:List ak}(hl:bH i l)(hi:i<=100){on:List ay}{g:List aZ}{x:av}:(∀s∈tX (jQ on l).h g x,∃y∈l,y.s=s)/\(tX (jQ on l).h g x).Pairwise (λa b=>jP a b=true)/\(tX (jQ on l).h g x).length<=200:=by
 have hr:=qdW (h:=(jQ on l).h) (g:=g) (x:=x) _ (zak _);have hn:=FE (h:=(jQ on l).h) (g:=g) (x:=x) _ (zak _);rw[zaj] at hr hn;refine⟨λs hs=> ?_,hr.qj1,?_⟩
 ·obtain⟨d,hd,rfl⟩:=hr.sub s hs;exact WM (on:=on) (l:=l) l.length (zak _) d (by rw[zaj];exact hd)
 have hb:=(wU (on:=on) hl.AZ l.length (zak _)).2.2.1;rw[zaj] at hb;have:=hl.cG;have:=hl.len;omega
def sY(b:Bool)(l:List bc):List av:=(l.filter λo=>o.kind==0&&(o.dir==b)).map (·.node)
def uQ(b:Bool)(l:List ak):List av:=l.flatMap λg=>sY b g.ops
theorem N7{i:Int}{l:List ak}(hl:bH i l){b:Bool}{y:av}(h:y∈uQ b l):iw l y:=by obtain⟨g,hg,hy⟩:=zcJ.1 h;obtain⟨o,ho,rfl⟩:=zaB.1 hy;grind [Un]
theorem Je(b:Bool)(l:List bc):(sY b l).length<=l.length:=by grind [sY]
theorem n5(b:Bool): ∀l:List ak,(uQ b l).length<=cG l
 | []=>zak _
 |g::l=>by have h1:=Je b g.ops;have h2:=n5 b l;grind [uQ,fQ]
def OpW(l:List ak)(v:List Int)(r:Int)(o:bc):Prop:=(∃m,kN (fc l v r) 0 o=some m)/\o.text.length<=2/\o.elems.length<=3
def dX(r:bx):D:= .agg [iE r.1.1,iE r.1.2.1,iE r.1.2.2,iE r.2.1.1,iE r.2.1.2.1,iE r.2.1.2.2,.str r.2.2]
abbrev n9(l:List bx):P:= .d (.sl 7 (l.map dX))
abbrev WN(z:Bool)(l:List bx):Obj:= .arr 165 z (l.map dX)
abbrev gK(z:Bool)(l:List bB):Obj:= .arr 112 z (l.map dX)
abbrev pe(x:av):Obj:= .box 50 [iD x.1,iD x.2.1,iD x.2.2]
abbrev qcB(z:Bool)(l:List (List UInt8)):Obj:= .arr 9 z (l.map D.str)
def AtG(l:List ak)(i:Int)(g:ak):Prop:=D.nth (l.map aR) i.toNat=aR g
def AtR(l:List bx)(i:Int)(r:bx):Prop:=D.nth (l.map dX) i.toNat=dX r
abbrev rn9(l:List ak)(x:av)(o:List bx)(i:Int):S:=⟨53,[(0,bp l),(3,.ref 0 0 0),(5,.sl 1 0 o.length),(6,iD i)],[(0,⟨0,none,pe x⟩),(1,⟨0,none,WN false o⟩)]⟩
abbrev qcC(l:List ak)(x:av)(o:List bx)(i k:Int):S:=⟨53,[(0,bp l),(3,.ref 0 0 0),(5,.sl 1 0 o.length),(6,iD i),(7,iD k)],[(0,⟨0,none,pe x⟩),(1,⟨0,none,WN false o⟩)]⟩
def ZcP(o:List bx):En:=En.mk 0 none (Obj.arr (165:TypeId) false (List.map dX o))
def ZcQ(x:av)(o:List bx):List (Nat×En):=[nt x,(1,ZcP o)]
def ZcO(o:List bx):Nat×P:=(5,P.sl 1 0 (List.length o))
def ZcN(l:List ak)(i:Int)(k:Int):List D:=[D.agg [D.int .i64 (D.aj (D.ar (jV l i k) 10)),D.int .i64 (D.aj (D.ar (jV l i k) 11)),D.int .i64 (D.aj (D.ar (jV l i k) 12)),D.int .i64 (D.aj (D.ar (jV l i k) 13)),D.int .i64 (D.aj (D.ar (jV l i k) 14)),D.int .i64 (D.aj (D.ar (jV l i k) 15)),D.str (D.cK (D.ar (jV l i k) 16))]]
def ZcM(l:List ak)(i:Int)(k:Int)(x:av):Bool:=D.aj (D.ar (jV l i k) 1)==Prod.fst x&&(D.aj (D.ar (jV l i k) 2)==e7 x&&true)&&(D.aj (D.ar (jV l i k) 3)==eX x&&true)
theorem qdX(l:List ak)(x:av)(o:List bx)(i k:Int)(ae:PX×S->Prop):(ob (iC i l) (ob (dM l i) (bif LL k l i then ob (iC i l) (ob (dM l i) (ob (Ft k l i) (ob (Fs l i k) (bif Fq l i k==(3:Int) then bif ZcM l i k x then ob (Nat.ble (List.length o) (List.length (List.map dX o))&&aI (List.length o+List.length (ZcN l i k)) 64) (ob (Zw k) (ae (PX.normal,S.mk 53 (de l::cE::(5,P.sl 1 0 (List.length o+List.length (ZcN l i k)))::ZS i::ZT k) [nt x,(1,En.mk 0 none (Obj.arr (165:TypeId) false (List.take (List.length o) (List.map dX o)++ZcN l i k)))]))) else ob (Zw k) (ae (PX.normal,S.mk 53 (de l::cE::ZcO o::ZS i::ZT k) (ZcQ x o))) else ob (Zw k) (ae (PX.normal,S.mk 53 (de l::cE::ZcO o::ZS i::ZT k) (ZcQ x o))))))) else ae (PX.exit 2,S.mk 53 (de l::cE::ZcO o::Bg i) (ZcQ x o)))))=(aD [] [] 59 6 (qcC l x o i k)) ae:=by kernel_rfl
def WO:S->K (PX×S):=λs ae=> ∃(l:List ak) (x:av) (o:List bx) (i:Int) (g:ak),AtG l i g/\s=qcC l x o i 0/\(0<=i/\i<l.length/\o.length+g.ops.length<=1000000)/\ ∀o',o'=o++sX x g.ops->ae (.exit 2,rn9 l x o' i)
theorem qj2(l:List ak)(x:av)(o:List bx)(i:Int)(ae:PX×S->Prop):(bif nv i l then∃(au:List ak) (aX:av) (aU:List bx) (bb:Int) (g:ak),AtG au bb g/\S.mk 53 (de l::cE::ZcO o::ZS i::pU) (ZcQ x o)=S.mk 53 (de au::cE::ZcO aU::ZS bb::pU) (ZcQ aX aU)/\((0:Int)<=bb/\bb<l4 au/\List.length aU+List.length (ak.ops g)<=1000000)/\ ∀(o':List bx),o'=aU++sX aX (ak.ops g)->ob (Zw bb) (ae (PX.normal,S.mk 53 (de au::cE::ZcO o'::ZL bb) (ZcQ aX o'))) else ae (PX.exit 0,S.mk 53 [(5,P.sl 0 0 (List.length o))] [(0,ZcP o)]))=(aD [] [(6,ah (aK 59 6) WO)] 59 3 (rn9 l x o i)) ae:=by kernel_rfl
def qg6:S->K (PX×S):=λs ae=> ∃l x,s=rn9 l x [] 0/\(l.length<=1000000/\cG l<=1000)/\ ∀o,o=cP l x->ae (.exit 0,⟨53,[(5,.sl 0 0 o.length)],[(0,⟨0,none,WN false o⟩)]⟩)
def WQ(au:List ak):Prop:=iR au/\cG au<=1000
def ZcR(au:List ak)(aX:av):S:=S.mk 53 (de au::cE::Z3h) [nt aX,(1,En.mk 0 none (Obj.arr (165:TypeId) false []))]
theorem ql2(l:List ak)(x:av)(ae:P×List (Nat×En)->Prop):(∃(au:List ak) (aX:av),ZcR l x=ZcR au aX/\WQ au/\ ∀(o:List bx),o=cP au aX->ae (P.sl 0 0 (List.length o),[(0,ZcP o)]))=(aJ [] [(3,ah (aK 59 3) qg6)] 59 [bp l,.d (bV x)] []) ae:=by kernel_rfl
def WR:bg:=λps R ae=> ∃l x,ps=[bp l,.d (bV x)]/\R=[]/\(l.length<=1000000/\cG l<=1000)/\ ∀o,o=cP l x->ae (.sl 0 0 o.length,[(0,⟨0,none,WN false o⟩)])
abbrev qcD(h g:List aZ)(x:av)(o:List ay)(n:Nat)(i k:Int):S:=⟨84,[(0,jk h),(1,jk g),(5,.ref 0 0 0),(7,.sl 1 0 n),(8,iD i),(9,iD k)],[(0,⟨0,none,pe x⟩),(1,⟨0,none,mL false o⟩)]⟩
abbrev of9(h g:List aZ)(x:av)(o:List ay)(i:Int):S:=⟨84,[(0,jk h),(1,jk g),(5,.ref 0 0 0),(7,.sl 1 0 o.length),(8,iD i)],[(0,⟨0,none,pe x⟩),(1,⟨0,none,mL false o⟩)]⟩
def ZcU(x:av)(o:List ay):List (Nat×En):=[nt x,(1,pc o)]
def ZcT(o:List ay)(k:Int):List D:=List.set (dq o) (Zt k) (D.aP (D.agg (IA o k)) (Z5e o k))
theorem qg7(h g:List aZ)(x:av)(o:List ay)(n:Nat)(i k:Int)(ae:PX×S->Prop):(bif ZF k then ob (l8 k n) (ob (NV k o) (ob (u7 o k) (ob (Zb k) (ob (uZ k n) (ob (decide (Zc k<List.length (dq o))) (ob (Z5c o k) (∃(a:ay) (b:ay),[P.d (D.agg (IA o k)),P.d (D.agg (Z5e o k))]=nb a::jy b/\Zo/\ ∀(r:Bool),r=jP a b->bif r then ob (Zb k) (ob (Zb k) (ob (uZ k n) (ob (decide (Zc k<List.length (dq o))) (ob (Z5c o k) (ob (l8 k n) (ob (NV k o) (ob (u7 o k) (ob (l8 k n) (ob (NV k o) (ob (u7 o k) (ob (uZ k n) (ob (decide (Zc k<List.length (ZcT o k))) (ob (cw PR (30:TypeId) (D.nth (ZcT o k) (Zc k))) (ob (Zb k) (ae (PX.normal,S.mk 84 (tB h::yl g::qN::(7,P.sl 1 0 n)::rk i::Z3t k) [nt x,(1,En.mk 0 none (Obj.arr (30:TypeId) false (List.set (ZcT o k) (Zc k) (D.aP (D.agg [D.int .i64 (D.aj (D.ar (D.nth (ZcT o k) (Zc k)) 0)),D.int .i64 (D.aj (D.ar (D.nth (ZcT o k) (Zc k)) 1))]) (IA o k)))))])))))))))))))))) else ae (PX.exit 2,S.mk 84 (tB h::yl g::qN::(7,P.sl 1 0 n)::JJ i) (ZcU x o))))))))) else ae (PX.exit 2,S.mk 84 (tB h::yl g::qN::(7,P.sl 1 0 n)::JJ i) (ZcU x o)))=(aD [(14,qJ)] [] 79 8 (qcD h g x o n i k)) ae:=by kernel_rfl
def WS:S->K (PX×S):=λst ae=> ∃h g x o y n i k,st=qcD h g x (o++[y]) n i k/\(k=(o.length:Int)/\n=o.length+1/\o.length<=1000000)/\ ∀o',o'=cD jP o y->ae (.exit 2,of9 h g x o' i)
def ZcW(o:List ay)(h:List aZ)(i:Int):Nat:=dv o+List.length [D.agg (Z8D h i)]
def ZcV(i:Int)(ae:PX×S->Prop)(h:List aZ)(g:List aZ)(o:List ay)(x:av):Prop:=ob (Zw i) (ae (PX.normal,S.mk 84 (tB h::yl g::qN::(7,P.sl 1 0 (dv o))::pW i) (ZcU x o)))
theorem WT(h g:List aZ)(x:av)(o:List ay)(i:Int)(ae:PX×S->Prop):(bif Z85 i h then ob (Qe i h) (ob (Qd h i) (bif !(D.aj (D.ar (Ay h i) 0)==Prod.fst x&&(D.aj (D.ar (Ay h i) 1)==e7 x&&true)&&(D.aj (D.ar (Ay h i) 2)==eX x&&true)) then ZcV i ae h g o x else ob (Qe i h) (ob (Qd h i) (∃(l:List aZ) (aX:aZ),Z8E g h i=[vY l,P.d (D.agg [D.int .i64 (Prod.fst (Prod.fst aX)),D.int .i64 (Prod.fst (Prod.snd (Prod.fst aX))),D.int .i64 (Prod.snd (Prod.snd (Prod.fst aX))),D.int .i64 (Prod.fst (Prod.snd aX)),D.int .i64 (Prod.snd (Prod.snd aX))])]/\Zo/\Dm l/\ ∀(b:Bool),b=decide (aX∈l)->bif b then ZcV i ae h g o x else ob (Qe i h) (ob (Qd h i) (∃(l:List ay) (x_2:ay),[w5 o,P.d (D.agg (Z8D h i))]=w5 l::jy x_2/\Bd o=Bd l/\kQ l/\ ∀(b:Bool),Fu b l x_2->bif b then ob (Zw i) (ae (PX.normal,S.mk 84 (tB h::yl g::qN::(7,P.sl 1 0 (dv o))::pW i) (ZcU x l))) else ob (Qe i h) (ob (Qd h i) (ob (Nat.ble (dv o) (List.length (dq l))&&aI (ZcW o h i) 16) (ob (decide (Z9<=(↑(ZcW o h i):Int)-(1:Int)/\(↑(ZcW o h i):Int)-(1:Int)<=Za)) (∃(nw:List aZ) (bq:List aZ) (x_3:av) (aU:List ay) (y:ay) (n:Nat) (bb:Int) (k:Int),S.mk 84 [tB h,yl g,qN,(7,P.sl 1 0 (ZcW o h i)),rk i,(9,P.d (D.int .i64 ((↑(ZcW o h i):Int)-(1:Int))))] [nt x,(1,En.mk 0 none (Obj.arr (30:TypeId) false (List.take (dv o) (dq l)++[D.agg (Z8D h i)])))]=S.mk 84 (tB nw::yl bq::qN::(7,P.sl 1 0 n)::rk bb::Yp k) [nt x_3,(1,En.mk 0 none (Obj.arr (30:TypeId) false (List.map bh (aU++[y]))))]/\(k=(↑(dv aU):Int)/\n=dv aU+1/\kQ aU)/\ ∀(o':List ay),o'=cD jP aU y->ZcV bb ae nw bq o' x_3)))))))))) else ae (PX.exit 0,S.mk 84 [(7,w5 o)] (Qa o)))=(aD [(92,Vp),(42,IV)] [(8,ah (aK 79 8) WS)] 79 3 (of9 h g x o i)) ae:=by kernel_rfl
def qg8:S->K (PX×S):=λs ae=> ∃h g x,s=of9 h g x [] 0/\(h.length<=1000000/\g.length<=1000000)/\ ∀o,o=tX h g x->ae (.exit 0,⟨84,[(7,.sl 0 0 o.length)],[(0,⟨0,none,mL false o⟩)]⟩)
def ZcX(nw:List aZ)(bq:List aZ)(aX:av):S:=S.mk 84 (tB nw::yl bq::qN::(7,rE)::tu) [nt aX,(1,vX)]
theorem qj3(h g:List aZ)(x:av)(ae:P×List (Nat×En)->Prop):(∃(nw:List aZ) (bq:List aZ) (aX:av),ZcX h g x=ZcX nw bq aX/\(Dm nw/\Dm bq)/\ ∀(o:List ay),o=tX nw bq aX->ae (w5 o,Qa o))=(aJ [] [(3,ah (aK 79 3) qg8)] 79 [jk h,jk g,.d (bV x)] []) ae:=by kernel_rfl
def qg9:bg:=λps R ae=> ∃h g x,ps=[jk h,jk g,.d (bV x)]/\R=[]/\(h.length<=1000000/\g.length<=1000000)/\ ∀o,o=tX h g x->ae (.sl 0 0 o.length,[(0,⟨0,none,mL false o⟩)])
abbrev el9(l:List bx)(o:List bB)(i:Int):S:=⟨86,[(0,n9 l),(3,.sl 0 0 o.length),(4,iD i)],[(0,⟨0,none,gK false o⟩)]⟩
abbrev WU(l:List bx)(o:List bB)(p:List (List UInt8))(a:av)(i k:Int):S:=⟨86,[(0,n9 l),(3,.sl 0 0 o.length),(4,iD i),(5,.sl 1 0 p.length),(7,.ref 2 0 0),(8,iD k)],[(0,⟨0,none,gK false o⟩),(1,⟨0,none,qcB false p⟩),(2,⟨0,none,pe a⟩)]⟩
abbrev qha(l:List bx)(o:List bB)(p:List (List UInt8))(a x:av)(h:Bool)(i k j:Int):S:=⟨86,[(0,n9 l),(3,.sl 0 0 o.length),(4,iD i),(5,.sl 1 0 p.length),(7,.ref 2 0 0),(8,iD k),(9,.ref 3 0 0),(10,.d (.bool h)),(11,iD j)],[(0,⟨0,none,gK false o⟩),(1,⟨0,none,qcB false p⟩),(2,⟨0,none,pe a⟩),(3,⟨0,none,pe x⟩)]⟩
def mN(o:List bB):List D:=List.map dX o
def vf(o:List bB)(j:Int):D:=D.nth (mN o) (Zt j)
noncomputable def Bs(o:List bB)(j:Int):Bool:=cw PR (112:TypeId) (vf o j)
def LU(j:Int)(o:List bB):Bool:=decide (Zt j<List.length (mN o))
def mr(o:List bB):Nat:=List.length o
def WV(j:Int)(o:List bB):Bool:=decide ((0:Int)<=j/\j<(↑(mr o):Int))
def xd(o:List bB):En:=En.mk 0 none (Obj.arr (112:TypeId) false (mN o))
def p8(o:List bB):Nat×En:=(0,xd o)
def Zda(o:List bB)(p:List (List UInt8))(a:av)(x:av):List (Nat×En):=[p8 o,NC p,(2,mH a),(3,mH x)]
def Zd6:Nat×P:=(9,P.ref 3 0 0)
def JO:Nat×P:=(7,tj)
def LV(p:List (List UInt8)):Nat×P:=(5,P.sl 1 0 (List.length p))
def vg(o:List bB):P:=P.sl 0 0 (mr o)
def AP(o:List bB):Nat×P:=(3,vg o)
def yp(l:List bx):P:=P.d (D.sl 7 (List.map dX l))
def Dz(l:List bx):Nat×P:=(0,yp l)
def ZcZ(j:Int)(o:List bB):Bool:=decide (j<(↑(mr o):Int))
theorem WW(l:List bx)(o:List bB)(p:List (List UInt8))(a x:av)(h:Bool)(i k j:Int)(ae:PX×S->Prop):(bif ZcZ j o then bif h then ob (Zw j) (ae (PX.normal,S.mk 86 (Dz l::AP o::og i::LV p::JO::rk k::Zd6::(10,ZW)::Z6s j) (Zda o p a x))) else ob (WV j o) (ob (LU j o) (ob (Bs o j) (ob (Zw j) (ae (PX.normal,S.mk 86 (Dz l::AP o::og i::LV p::JO::rk k::Zd6::(10,P.d (D.bool (D.aj (D.ar (vf o j) 0)==Prod.fst x&&(D.aj (D.ar (vf o j) 1)==e7 x&&true)&&(D.aj (D.ar (vf o j) 2)==eX x&&true))))::Z6s j) (Zda o p a x)))))) else ae (PX.exit 4,S.mk 86 [Dz l,AP o,og i,LV p,JO,rk k,Zd6,(10,dV h)] (Zda o p a x)))=(aD [] [] 107 13 (qha l o p a x h i k j)) ae:=by kernel_rfl
def WX:S->K (PX×S):=λs ae=> ∃l o p a x h i k,s=qha l o p a x h i k 0/\o.length<=1000000/\ ∀b,b=(h ||o.any λe=>e.1==x)->ae (.exit 4,⟨86,[(0,n9 l),(3,.sl 0 0 o.length),(4,iD i),(5,.sl 1 0 p.length),(7,.ref 2 0 0),(8,iD k),(9,.ref 3 0 0),(10,.d (.bool b))],[(0,⟨0,none,gK false o⟩),(1,⟨0,none,qcB false p⟩),(2,⟨0,none,pe a⟩),(3,⟨0,none,pe x⟩)]⟩)
def Ca(o:List bB):List (Nat×En):=[p8 o]
def FF(aU:List bB):List D:=List.take (mr aU) (mN aU)
def Zdj(x:av)(gX:av)(k8:List (List UInt8))(bX:Int):List D:=[D.agg [eO x,eN x,eY x,eO gX,eN gX,eY gX,D.str (D.cK (D.nth (List.map D.str k8) (Zt bX)))]]
def WY(aU:List bB):Bool:=Nat.ble (mr aU) (List.length (mN aU))
def N8(aU:List bB):Prop:=mr aU<=1000000
def Cb(l:List bx)(i:Int):D:=D.nth (List.map dX l) (Zt i)
def Zdf(i:Int)(l:List bx):Bool:=decide ((0:Int)<=i/\i<(↑(List.length (List.map dX l)):Int))
theorem WZ(l:List bx)(o:List bB)(p:List (List UInt8))(a:av)(i k:Int)(ae:PX×S->Prop):(bif decide (k<(↑(List.length p):Int)) then ob (Zdf i l) (ob (cw PR (165:TypeId) (Cb l i)) (ob (Zdf i l) (ob (cw PR (165:TypeId) (Cb l i)) (ob (decide (Z9<=D.aj (D.ar (Cb l i) 5)+k/\D.aj (D.ar (Cb l i) 5)+k<=Za)) (∃(au:List bx) (aU:List bB) (k8:List (List UInt8)) (gX:av) (x:av) (h:Bool) (bb:Int) (bX:Int),S.mk 86 (Dz l::AP o::og i::LV p::JO::rk k::Zd6::(10,P.d (D.bool (D.aj (D.ar (Cb l i) 3)==(0:Int)&&(D.aj (D.ar (Cb l i) 4)==(0:Int)&&true)&&(D.aj (D.ar (Cb l i) 5)+k==(0:Int)&&true))))::Z6M) [p8 o,NC p,(2,mH a),(3,En.mk 0 none (Obj.box (50:TypeId) [P.d (D.int .i64 (D.aj (D.ar (Cb l i) 3))),P.d (D.int .i64 (D.aj (D.ar (Cb l i) 4))),P.d (D.int .i64 (D.aj (D.ar (Cb l i) 5)+k))]))]=S.mk 86 (Dz au::AP aU::og bb::LV k8::JO::rk bX::Zd6::(10,dV h)::Z6M) (Zda aU k8 gX x)/\N8 aU/\ ∀(b:Bool),b=(h ||List.any aU λ(e:bB)=>Prod.fst e==x)->bif lX b then ob (decide ((0:Int)<=bX/\bX<(↑(List.length k8):Int))) (ob (decide (Zt bX<List.length (List.map D.str k8))) (ob (cw PR (9:TypeId) (D.nth (List.map D.str k8) (Zt bX))) (ob (WY aU&&aI (mr aU+List.length (Zdj x gX k8 bX)) 64) (ob (Zw bX) (ae (PX.normal,S.mk 86 (Dz au::(3,P.sl 0 0 (mr aU+List.length (Zdj x gX k8 bX)))::og bb::LV k8::JO::pW bX) ((0,En.mk 0 none (Obj.arr (112:TypeId) false (FF aU++Zdj x gX k8 bX)))::NC k8::Z2y x))))))) else ob (Zw bX) (ae (PX.normal,S.mk 86 (Dz au::AP aU::og bb::LV k8::JO::pW bX) (p8 aU::NC k8::Z2y x)))))))) else ae (PX.exit 2,S.mk 86 (Dz l::AP o::BV i) (Ca o)))=(aD [] [(13,ah (aK 107 13) WX)] 107 8 (WU l o p a i k)) ae:=by kernel_rfl
def W2:S->K (PX×S):=λs ae=> ∃l o p r i,s=WU l o p r.1 i 0/\(0<=i/\i<l.length/\l.length<=1000000/\p.length<=100000/\o.length+p.length<=1000000/\(0<=r.2.1.2.2/\r.2.1.2.2<=1000000000000))/\AtR l i r/\ ∀o',o'=JM r o p->ae (.exit 2,el9 l o' i)
def Zdo(l:List bx)(i:Int):List (Nat×En):=[(2,En.mk 0 none (Obj.box (50:TypeId) [P.d (D.int .i64 (D.aj (D.ar (Cb l i) 0))),P.d (D.int .i64 (D.aj (D.ar (Cb l i) 1))),P.d (D.int .i64 (D.aj (D.ar (Cb l i) 2)))]))]
def YM(au:List bx):Prop:=List.length au<=1000000
def Zdn(ae:PX×S->Prop):S->Prop:=λ(s0:S)=> ∃(au:List bx) (aU:List bB) (p:List (List UInt8)) (r:bx) (bb:Int),s0=S.mk 86 (Dz au::AP aU::og bb::LV p::JO::tu) [p8 aU,NC p,(2,En.mk 0 none (Obj.box (50:TypeId) [P.d (D.int .i64 (Prod.fst (Prod.fst r))),P.d (D.int .i64 (Prod.fst (Prod.snd (Prod.fst r)))),P.d (D.int .i64 (Prod.snd (Prod.snd (Prod.fst r))))]))]/\((0:Int)<=bb/\bb<(↑(List.length au):Int)/\YM au/\List.length p<=100000/\mr aU+List.length p<=1000000/\(0:Int)<=Prod.snd (Prod.snd (Prod.fst (Prod.snd r)))/\Prod.snd (Prod.snd (Prod.fst (Prod.snd r)))<=(1000000000000:Int))/\AtR au bb r/\ ∀(o':List bB),o'=JM r aU p->ob (Zw bb) (ae (PX.normal,S.mk 86 (Dz au::AP o'::tq bb) (Ca o')))
theorem W3(l:List bx)(o:List bB)(i:Int)(ae:PX×S->Prop):(bif decide (i<(↑(List.length (List.map dX l)):Int)) then ob (Zdf i l) (ob (cw PR (165:TypeId) (Cb l i)) (∃(s:List UInt8),[P.d (D.str (D.cK (D.ar (Cb l i) 6)))]=ug s/\Zo/\JF s/\(UC s->ob (Zdf i l) (ob (cw PR (165:TypeId) (Cb l i)) (Zdn ae (S.mk 86 (Dz l::AP o::og i::(5,rE)::JO::tu) (p8 o::(1,Z43)::Zdo l i)))))/\(UB s-> ∀(aU:List (List UInt8)),aU=JG s->ob (Zdf i l) (ob (cw PR (165:TypeId) (Cb l i)) (Zdn ae (S.mk 86 (Dz l::AP o::og i::LV aU::JO::tu) (p8 o::NC aU::Zdo l i))))))) else ae (PX.exit 0,S.mk 86 [AP o] (Ca o)))=(aD [(144,uC)] [(8,ah (aK 107 8) W2)] 107 3 (el9 l o i)) ae:=by kernel_rfl
def e9(l:List bx):Prop:=l.length<=1000000/\JN l<=1000000/\ ∀r∈l,r.2.2.length<=100000/\0<=r.2.1.2.2/\r.2.1.2.2<=1000000000000
def qhb:S->K (PX×S):=λs ae=> ∃l,s=el9 l [] 0/\e9 l/\ ∀o,o=uM l->ae (.exit 0,⟨86,[(3,.sl 0 0 o.length)],[(0,⟨0,none,gK false o⟩)]⟩)
def YN(ae:P×List (Nat×En)->Prop)(o:List bB):Prop:=ae (vg o,Ca o)
def Zdp:En:=En.mk 0 none (Obj.arr (112:TypeId) false [])
def Zdq(au:List bx):S:=S.mk 86 (Dz au::T6) [(0,Zdp)]
theorem qj4(l:List bx)(ae:P×List (Nat×En)->Prop):(∃(au:List bx),Zdq l=Zdq au/\e9 au/\ ∀(o:List bB),o=uM au->YN ae o)=(aJ [] [(3,ah (aK 107 3) qhb)] 107 [n9 l] []) ae:=by kernel_rfl
def W4:bg:=λps R ae=> ∃l,ps=[n9 l]/\R=[]/\e9 l/\ ∀o,o=uM l->ae (.sl 0 0 o.length,[(0,⟨0,none,gK false o⟩)])
abbrev es9(l:List bB)(o:List av)(i:Int):S:=⟨64,[(5,.sl 0 0 l.length),(6,.sl 1 0 o.length),(7,iD i)],[(0,⟨0,none,gK false l⟩),(1,⟨0,none,fS false o⟩)]⟩
abbrev qcE(l:List bB)(o:List av)(n:Nat)(i k:Int):S:=⟨64,[(5,.sl 0 0 l.length),(6,.sl 1 0 n),(7,iD i),(8,iD k)],[(0,⟨0,none,gK false l⟩),(1,⟨0,none,fS false o⟩)]⟩
def Qy(l:List bB):Nat×P:=(5,vg l)
def Zdt(ae:PX×S->Prop)(l:List bB)(n:Nat)(i:Int)(o:List av):Prop:=ae (PX.exit 2,S.mk 64 [Qy l,K9 n,o5 i] [p8 l,(1,Bf o)])
theorem qhc(l:List bB)(o:List av)(n:Nat)(i k:Int)(ae:PX×S->Prop):(bif ZF k then ob (l8 k n) (ob (Vu k o) (ob (vN o k) (ob (Zb k) (ob (uZ k n) (ob (Z8n k o) (ob (Q8 o k) (∃(t:Int) (r:Int) (bb:Int) (t':Int) (r':Int) (i':Int),Z8v o k=P.d (D.agg (Zk t::Zk r::Zl bb))::AV t' r' i'/\Zo/\bif Ub t r bb t' r' i' then ob (Zb k) (ob (Zb k) (ob (uZ k n) (ob (Z8n k o) (ob (Q8 o k) (ob (l8 k n) (ob (Vu k o) (ob (vN o k) (ob (l8 k n) (ob (Vu k o) (ob (vN o k) (ob (uZ k n) (ob (decide (Zc k<List.length (Yw o k))) (ob (cw PR (50:TypeId) (D.nth (Yw o k) (Zc k))) (ob (Zb k) (ae (PX.normal,S.mk 64 (Qy l::K9 n::o5 i::Z8q k) [p8 l,(1,Z8r o k)])))))))))))))))) else Zdt ae l n i o))))))) else Zdt ae l n i o)=(aD [(88,gG)] [] 80 8 (qcE l o n i k)) ae:=by kernel_rfl
def W5:S->K (PX×S):=λst ae=> ∃l o x n i k,st=qcE l (o++[x]) n i k/\(k=(o.length:Int)/\n=o.length+1/\o.length<=1000000)/\ ∀o',o'=cD mh o x->ae (.exit 2,es9 l o' i)
def YO(l:List bB)(i:Int):D:=D.int .i64 (D.aj (D.ar (vf l i) 1))
def YP(l:List bB)(i:Int):D:=D.int .i64 (D.aj (D.ar (vf l i) 0))
def Zdw(l:List bB)(i:Int):D:=D.agg [YP l i,YO l i,D.int .i64 (D.aj (D.ar (vf l i) 2))]
def Zdx(o:List av)(l:List bB)(i:Int):Nat:=fF o+List.length [Zdw l i]
theorem W6(l:List bB)(o:List av)(i:Int)(ae:PX×S->Prop):(bif ZcZ i l then ob (WV i l) (ob (LU i l) (ob (Bs l i) (ob (Nat.ble (fF o) (oi o)&&aI (Zdx o l i) 24) (ob (decide (Z9<=(↑(Zdx o l i):Int)-(1:Int)/\(↑(Zdx o l i):Int)-(1:Int)<=Za)) (∃(au:List bB) (aU:List av) (x:av) (n:Nat) (bb:Int) (k:Int),S.mk 64 [Qy l,(6,P.sl 1 0 (Zdx o l i)),o5 i,(8,P.d (D.int .i64 ((↑(Zdx o l i):Int)-(1:Int))))] [p8 l,(1,En.mk 0 none (Obj.arr (50:TypeId) false (Qs o++[Zdw l i])))]=S.mk 64 (Qy au::K9 n::o5 bb::JJ k) [p8 au,(1,Z8C aU x)]/\(k=vb aU/\n=fF aU+1/\nu aU)/\ ∀(o':List av),o'=cD mh aU x->ob (Zw bb) (ae (PX.normal,S.mk 64 (Qy au::(6,P.sl 1 0 (fF o'))::ZT bb) [p8 au,(1,Bf o')]))))))) else ae (PX.exit 0,S.mk 64 [(6,pC o)] (r7 o)))=(aD [] [(8,ah (aK 80 8) W5)] 80 4 (es9 l o i)) ae:=by kernel_rfl
def qhd:S->K (PX×S):=λs ae=> ∃l,s=es9 l [] 0/\l.length<=1000000/\ ∀o,o=cm mh (l.map (·.1))->ae (.exit 0,⟨64,[(6,.sl 0 0 o.length)],[(0,⟨0,none,fS false o⟩)]⟩)
def Zdy(l:List bB):S:=S.mk 64 (Qy l::Z3y) [p8 l,(1,JK)]
def Zdz(o:List bx):P:=P.d (D.sl 7 (List.take (List.length o) (List.map dX o)))
theorem qj5(l:List ak)(x:av)(ae:P×List (Nat×En)->Prop):(∃(au:List ak) (aX:av),ct l::e8 x=ct au::e8 aX/\Zo/\WQ au/\ ∀(o:List bx),o=cP au aX-> ∃(l:List bx),[Zdz o]=[yp l]/\Zo/\e9 l/\ ∀(o:List bB),o=uM l-> ∃(l:List bB),Zdy o=Zdy l/\N8 l/\ ∀(o:List av),o=cm mh (List.map (λ(x:bB)=>Prod.fst x) l)->ae (pC o,r7 o))=(aJ [(59,WR),(107,W4)] [(4,ah (aK 80 4) qhd)] 80 [bp l,.d (bV x)] []) ae:=by kernel_rfl
def qhe:bg:=λps R ae=> ∃l x,ps=[bp l,.d (bV x)]/\R=[]/\(l.length<=1000000/\cG l<=1000/\e9 (cP l x))/\ ∀o,o=Jd l x->ae (.sl 0 0 o.length,[(0,⟨0,none,fS false o⟩)])
theorem W7(r:bx):cw PR 165 (dX r)=true:=by rfl
theorem sZ(r:bB):cw PR 112 (dX r)=true:=by rfl
theorem ql3(s:List UInt8):cw PR 9 (D.str s)=true:=by rfl
theorem Qz{x:av}{l:List bc}{k:Nat}(h:k<l.length):sX x (l.take (k+1))=sX x (l.take k)++FA x l[k]:=by grind [sX,List.take_succ_eq_append_getElem]
theorem LW{x:av}{l:List ak}{i:Nat}(h:i<l.length):cP (l.take (i+1)) x=cP (l.take i) x++sX x l[i].ops:=by grind [cP,List.take_succ_eq_append_getElem]
section
variable{X:XF}
theorem W8:LD X 59 6 (ah (aK 59 6) WO):=LD.idx (H:=[]) (hk:=[]) (by rfl) (by rfl) .nil .nil
 (A:=List ak×av×List bx×Int×ak) (B:=List bx) (λa o k=>qcC a.1 a.2.1 o a.2.2.2.1 k) (λa=>a.2.2.2.2.ops.length)
 (λa k o=>((0<=a.2.2.2.1/\a.2.2.2.1<a.1.length)/\D.nth (a.1.map aR) a.2.2.2.1.toNat=aR a.2.2.2.2/\a.2.2.1.length+a.2.2.2.2.ops.length<=1000000)/\o=a.2.2.1++sX a.2.1 (a.2.2.2.2.ops.take k))
 (λa z=>z=(.exit 2,rn9 a.1 a.2.1 (a.2.2.1++sX a.2.1 a.2.2.2.2.ops) a.2.2.2.1))
 (by
  rintro⟨l,x,o0,i,g⟩ o k ae h0 tU du ⟨⟨hb,hg,hl⟩,ho⟩ hn aT
  try dsimp only at*
  (rw[<-qdX];delta Zk Zm ZS Bg ZcP eX eY e7 eN eO mH nt ZcQ ZcO ZA ZT bP cE cg ct de Za Z9 Zw Zt gT jV ZcN ZcM Fq Fs Ri Ft LL dM gi iC)
  have dt:0<=i/\i<((l.map aR).length:Int):=by rw[zaa];exact hb
  have u6:D.dS (D.ar (aR g) 6)=g.ops.map dC:=rfl;have e1:D.nth (g.ops.map dC) k.toNat=dC g.ops[k.toNat]:=ax _ _ _ du;have jS:=Qz (x:=x) du;have k9:o.length<1000000:=by have:=AL x (g.ops.take k.toNat);rw[zas] at this;rw[ho,zah];omega
  rw[hg,u6,e1];have Gm:0<=k/\k<((g.ops.map dC).length:Int):=by grind
  generalize g.ops[k.toNat]=y at*
  have pn:=fh g;have sk:=IE y;have c0:D.aj (D.ar (dC y) 0)=y.kind:=rfl;have c1:(D.aj (D.ar (dC y) 1)==x.1&&(D.aj (D.ar (dC y) 2)==x.2.1&&true)&&(D.aj (D.ar (dC y) 3)==x.2.2&&true))=(y.node==x):=rD y.node x;have t2:D.agg [D.int .i64 (D.aj (D.ar (dC y) 10)),D.int .i64 (D.aj (D.ar (dC y) 11)),D.int .i64 (D.aj (D.ar (dC y) 12)),D.int .i64 (D.aj (D.ar (dC y) 13)),D.int .i64 (D.aj (D.ar (dC y) 14)),D.int .i64 (D.aj (D.ar (dC y) 15)),D.str (D.cK (D.ar (dC y) 16))]=dX (y.after,y.elem,y.text):=rfl;rw[c0,c1,t2,bO];have bS: ¬(y.kind=3/\y.node=x)->o0++sX x (g.ops.take (k.toNat+1))=o:=λh=>by
   rw[jS,ho];have:FA x y=[]:=by unfold FA;rw[zan h]
   rw[this,zaV]
  have cv:y.kind=3->y.node=x->o0++sX x (g.ops.take (k.toNat+1))=o++[(y.after,y.elem,y.text)]:=λh1 h2=>by
   rw[jS,ho,zaM];have:FA x y=[(y.after,y.elem,y.text)]:=by unfold FA;rw[zap ⟨h1,h2⟩]
   rw[this]
  refine ao dt (aq pn (bn Gm.2 (ao dt (aq pn (ao Gm (aq sk (A9 (λhk=>aA (λhx=> ?_) λhx=>ao (by omega) (hn o ⟨⟨hb,hg,hl⟩,(bS (λhh=>by rw[hh.2] at hx;simp at hx)).symm⟩)) λhk=>ao (by omega) (hn o ⟨⟨hb,hg,hl⟩,(bS (λhh=>hk hh.1)).symm⟩))))))));have hy:=hn (o++[(y.after,y.elem,y.text)]) ⟨⟨hb,hg,hl⟩,(cv hk (by grind)).symm⟩;simp only[qcC,zah] at hy;refine aq (c8 rfl (by rw[zaa]) (by omega) (by decide)) (ao (by omega) ?_);exact hy)
 (by
  rintro⟨l,x,o0,i,g⟩ o k ae hk ⟨⟨hb,hg,hl⟩,ho⟩ aT
  try dsimp only at*
  (rw[<-qdX];delta Zk Zm ZS Bg ZcP eX eY e7 eN eO mH nt ZcQ ZcO ZA ZT bP cE cg ct de Za Z9 Zw Zt gT jV ZcN ZcM Fq Fs Ri Ft LL dM gi iC)
  have dt:0<=i/\i<((l.map aR).length:Int):=by rw[zaa];exact hb
  have u6:D.dS (D.ar (aR g) 6)=g.ops.map dC:=rfl;rw[hg,u6];refine ao dt (aq (fh g) (jU (by rw[zaa];omega) (aT _ (λh=>by cases h) ?_)));rw[ho,zaj])
 (by rintro s ae ⟨l,x,o,i,g,hg,rfl,⟨h1,h2,h3⟩,hp⟩;refine⟨(l,x,o,i,g),o,rfl,⟨⟨⟨h1,h2⟩,hg,h3⟩,by simp[sX]⟩,?_⟩;grind)
theorem qcF:LD X 59 3 (ah (aK 59 3) qg6):=LD.idx (H:=[]) (hk:=[(6,ah (aK 59 6) WO)]) (by rfl) (by rfl) .nil (.cons W8 .nil)
 (A:=List ak×av) (B:=List bx) (λa o i=>rn9 a.1 a.2 o i) (λa=>a.1.length)
 (λa i o=>(a.1.length<=1000000/\cG a.1<=1000)/\o=cP (a.1.take i) a.2)
 (λa z=>z=(.exit 0,⟨53,[(5,.sl 0 0 (cP a.1 a.2).length)],[(0,⟨0,none,WN false (cP a.1 a.2)⟩)]⟩))
 (by
  rintro⟨l,x⟩ o i ae h0 bK aQ ⟨hc,ho⟩ hn aT
  try dsimp only at*
  have jS:=LW (x:=x) aQ;have h2:=nS l (i.toNat+1);have h3:=oZ aQ;have h4:=wb x (l.take i.toNat);rw[<-ho] at h4;refine bn (by rw[zaa];exact bK) ⟨l,x,o,i,l[i.toNat],ax _ _ _ aQ,rfl,⟨h0,bK,by omega⟩,λo' ff=>ao (by omega) (hn o' ⟨hc,?_⟩)⟩;rw[ff,ho,jS])
 (by
  rintro⟨l,x⟩ o i ae hi ⟨hc,ho⟩ aT
  try skip
  (rw[<-qj2];delta ZcP ZA ZL Za Z9 Zw dn l4 eX eY e7 eN eO mH nt ZcQ Z7 pU Zk Zm ZS ZcO bP cE cg ct de gi nv)
  refine jU (by rw[zaa];omega) (aT _ (λh=>by cases h) ?_);rw[ho,zaj])
 (by rintro s ae ⟨l,x,rfl,hc,hp⟩;refine⟨(l,x),[],rfl,⟨hc,rfl⟩,?_⟩;grind)
theorem qdY:FD X 59 WR:=FD.mk (H:=[]) (hk:=[(3,ah (aK 59 3) qg6)]) (by rfl) .nil (.cons qcF .nil) (by
 intro ps R ae hh;obtain⟨l,x,rfl,rfl,hs,hp⟩:=hh
 (rw[<-ql2];delta ZcP dn iR WQ eX eY e7 eN eO mH nt Z7 JE rE Z3h bP cE cg ct de ZcR)
 grind)
theorem W9:LD X 79 8 (ah (aK 79 8) WS):=LD.ins (H:=[(14,qJ)]) (hk:=[]) (by rfl) (by rfl) (.cons Ap .nil) .nil
 (A:=List aZ×List aZ×av×Nat×Int) (α:=ay) (λa o k=>qcD a.1 a.2.1 a.2.2.1 o a.2.2.2.1 a.2.2.2.2 k) jP (λa=>a.2.2.2.1) (λ_=>True) (λa o=>(.exit 2,⟨84,[(0,jk a.1),(1,jk a.2.1),(5,.ref 0 0 0),(7,.sl 1 0 a.2.2.2.1),(8,iD a.2.2.2.2)],[(0,⟨0,none,pe a.2.2.1⟩),(1,⟨0,none,mL false o⟩)]⟩)) (λ_ _ h=>by cases h)
 (by
  rintro⟨h,g,v,n,i⟩ o k ae _ h0 xt k9 hk hz bS cv
  try dsimp only at*
  subst xt
  (rw[<-qg7];delta dq pc eX eY e7 eN eO mH nt ZcU Zk Zm rk JJ ZG Z3t bP qN vY yl tB Zc Z5e Zt Iz F5 IA ZcT Zo iP iQ nb jy Z5c uZ Za Z9 Zb u7 NV l8 ZF)
  refine cr (λhp=> ?_) λhp=>hz (by omega);have ft:k.toNat-1<o.length:=by omega
  have ek:(k-1).toNat=k.toNat-1:=by omega
  have e1:D.nth (o.map bh) k.toNat=bh o[k.toNat]:=ax _ _ _ hk;have e2:D.nth (o.map bh) (k.toNat-1)=bh o[k.toNat-1]:=ax _ _ _ ft;have bS:=bS hp;have cv:=cv hp;have vZ:=jj bh o k.toNat o[k.toNat] o[k.toNat-1];have e3: ∀z,D.nth ((o.map bh).set k.toNat z) (k.toNat-1)=bh o[k.toNat-1]:=λz=>by grind [D.nth]
  rw[ek,e1,e2];simp only[e3];generalize o[k.toNat]=x at*
  generalize o[k.toNat-1]=y at*
  simp only[zaa,zbj] at cv⊢;have v7:0<=k/\k<(o.length:Int):=⟨h0,by omega⟩
  have v8:0<=k-1/\k-1<(o.length:Int):=⟨by omega,by omega⟩
  have hf:(-9223372036854775808:Int)<=k-1/\k-1<=9223372036854775807:=by omega
  refine ao v7 (ao hk (aq (jM _) (ao hf (ao v8 (ao ft (aq (jM _) ⟨x,y,rfl,rfl,λb hb=>aA (λh=> ?_) λh=>bS (by rw[<-hb];exact h)⟩))))));have hy:=cv (by rw[<-hb];exact h);simp only[qcD,mL] at hy;rw[<-vZ] at hy;refine ao hf (ao hf (ao v8 (ao ft (aq (jM _) (ao v7 (ao hk (aq (jM _) (ao v7 (ao hk (aq (jM _) (ao v8 (ao ft (aq (jM _) (ao hf ?_))))))))))))));exact hy)
 (by rintro s ae ⟨h,g,v,o,x,n,i,k,rfl,⟨hk,hn,ho⟩,hp⟩;refine⟨(h,g,v,n,i),o,x,k,rfl,hk,trivial,⟨hn.symm,ho⟩,?_⟩;have:=hp _ rfl;rw[of9,jN,<-hn] at this;exact this)
theorem qcG:LD X 79 3 (ah (aK 79 3) qg8):=LD.idx (H:=[(92,Vp),(42,IV)]) (hk:=[(8,ah (aK 79 8) WS)]) (by rfl) (by rfl) (.cons qdB (.cons VB .nil)) (.cons W9 .nil)
 (A:=List aZ×List aZ×av) (B:=List ay) (λa o i=>of9 a.1 a.2.1 a.2.2 o i) (λa=>a.1.length) (λa i o=>(a.1.length<=1000000/\a.2.1.length<=1000000)/\o=tX (a.1.take i) a.2.1 a.2.2)
 (λa x=>x=(.exit 0,⟨84,[(7,.sl 0 0 (tX a.1 a.2.1 a.2.2).length)],[(0,⟨0,none,mL false (tX a.1 a.2.1 a.2.2)⟩)]⟩))
 (by
  rintro⟨h,g,v⟩ o i ae h0 bK aQ ⟨hm,ho⟩ hn aT
  try skip
  (rw[<-WT];delta dq pc Qa Zk Zm Yp eX eY e7 eN eO mH nt rk Za Z9 Zt Ay Z8D dv ZcW ZcU ZA pW bP qN vY yl tB Zw Fu kQ P9 Bd iP iQ nb jy w5 Dm Zo Z8E ZcV Qd Qe Z85)
  have k9:o.length<=i.toNat:=by grind [FE]
  have e1:D.nth (h.map iH) i.toNat=iH h[i.toNat]:=ax _ _ _ aQ;have iv:=FB (g:=g) (x:=v) aQ;rw[<-ho] at iv;have bZ:=λo' (ff:o'=Rk g v o h[i.toNat])=>hn o' ⟨hm,by rw[iv];exact ff⟩;generalize h[i.toNat]=d at*
  rw[e1];simp only[zaa];have t1:List.take o.length (o.map bh)++[bh d.2]=(o++[d.2]).map bh:=bO bh o d.2;have c1:(D.aj (D.ar (iH d) 0)==v.1&&(D.aj (D.ar (iH d) 1)==v.2.1&&true)&&(D.aj (D.ar (iH d) 2)==v.2.2&&true))=(d.1==v):=rD d.1 v;refine bn bK (ao ⟨h0,bK⟩ (aq (LC _) (aA (λhx=>ao (by omega) (bZ o ?_)) λhx=>ao ⟨h0,bK⟩ (aq (LC _) ⟨g,d,rfl,rfl,hm.2,λb hb=> ?_⟩))))
  ·unfold Rk;rw[zap (.inl (by grind))]
  have uX: ¬d.1≠v:=by grind
  refine aA (λA8=>ao (by omega) (bZ o ?_)) λw6=>ao ⟨h0,bK⟩ (aq (LC _) ⟨o,d.2,rfl,rfl,by omega,λb2 cu=>aA (λVD=>ao (by omega) (bZ o ?_)) λVE=> ?_⟩)
  ·unfold Rk;rw[hb,zai] at A8;rw[zap (.inr (.inl A8))]
  ·unfold Rk;rw[cu,zai] at VD;rw[zap (.inr (.inr VD))]
  rw[hb,zaP] at w6;rw[cu,zaP] at VE;have VF:Rk g v o d=cD jP o d.2:=by unfold Rk;rw[zan (λhh=>hh.elim uX λhh=>hh.elim w6 VE)]
  simp only[zao,zat,zaF];refine ao ⟨h0,bK⟩ (aq (LC _) (aq ?_ (ao (by omega) ⟨h,g,v,o,d.2,o.length+1,i,((o.length+1:Nat):Int)-1,congrArg (λz=>(⟨84,[(0,jk h),(1,jk g),(5,.ref 0 0 0),(7,.sl 1 0 (o.length+1)),(8,iD i),(9,iD (((o.length+1:Nat):Int)-1))],[(0,⟨0,none,pe v⟩),(1,⟨0,none,.arr 30 false z⟩)]⟩:S)) t1,⟨by omega,rfl,by omega⟩,λo' ff=>ao (by omega) (bZ o' (by rw[VF];exact ff))⟩)));rw[zab];exact⟨by simp,cd (by omega) (by omega)⟩)
 (by
  rintro⟨h,g,v⟩ o i ae hi ⟨hm,ho⟩ aT
  try skip
  (rw[<-WT];delta dq pc Qa Zk Zm Yp eX eY e7 eN eO mH nt rk Za Z9 Zt Ay Z8D dv ZcW ZcU ZA pW bP qN vY yl tB Zw Fu kQ P9 Bd iP iQ nb jy w5 Dm Zo Z8E ZcV Qd Qe Z85)
  refine jU (by grind) (aT _ (λh=>by cases h) ?_);rw[ho,zaj])
 (by rintro s ae ⟨h,g,v,rfl,hs,hp⟩;refine⟨(h,g,v),[],rfl,⟨hs,rfl⟩,?_⟩;grind)
theorem qj6:FD X 79 qg9:=FD.mk (H:=[]) (hk:=[(3,ah (aK 79 3) qg8)]) (by rfl) .nil (.cons qcG .nil) (by
 intro ps R ae hh;obtain⟨h,g,v,rfl,rfl,hs,hp⟩:=hh
 (rw[<-qj3];delta dq pc Qa dv w5 Dm vX eX eY e7 eN eO mH nt Z7 tu rE bP qN vY yl tB ZcX)
 grind)
theorem Xa:LD X 107 13 (ah (aK 107 13) WX):=LD.idx (H:=[]) (hk:=[]) (by rfl) (by rfl) .nil .nil
 (A:=List bx×List bB×List (List UInt8)×av×av×Bool×Int×Int) (B:=Bool) (λa b j=>qha a.1 a.2.1 a.2.2.1 a.2.2.2.1 a.2.2.2.2.1 b a.2.2.2.2.2.2.1 a.2.2.2.2.2.2.2 j) (λa=>a.2.1.length)
 (λa j b=>a.2.1.length<=1000000/\b=(a.2.2.2.2.2.1 || (a.2.1.take j).any λe=>e.1==a.2.2.2.2.1))
 (λa z=>z=(.exit 4,⟨86,[(0,n9 a.1),(3,.sl 0 0 a.2.1.length),(4,iD a.2.2.2.2.2.2.1),(5,.sl 1 0 a.2.2.1.length),(7,.ref 2 0 0),(8,iD a.2.2.2.2.2.2.2),(9,.ref 3 0 0),(10,.d (.bool (a.2.2.2.2.2.1 ||a.2.1.any λe=>e.1==a.2.2.2.2.1)))],[(0,⟨0,none,gK false a.2.1⟩),(1,⟨0,none,qcB false a.2.2.1⟩),(2,⟨0,none,pe a.2.2.2.1⟩),(3,⟨0,none,pe a.2.2.2.2.1⟩)]⟩))
 (by
  rintro⟨l,o,p,a,x,h,i,k⟩ b j ae h0 GG Dl ⟨hc,hb⟩ hn aT
  try skip
  (rw[<-WW];delta dV eX e7 Zt mN vf Bs LU mr WV eY eN eO mH UA NC xd p8 Zda ZA Z6s ZW Zd6 Zk Zm rk tj JO LV og vg AP yp Dz Za Z9 Zw ZcZ)
  have e1:D.nth (o.map dX) j.toNat=dX o[j.toNat]:=ax _ _ _ Dl;have jS:((o.take (j.toNat+1)).any λe=>e.1==x)=((o.take j.toNat).any (λe=>e.1==x)||o[j.toNat].1==x):=by rw[zae Dl,zcu,zdv,List.any_nil,zb3]
  rw[e1];generalize o[j.toNat]=e at*
  have c1:(D.aj (D.ar (dX e) 0)==x.1&&(D.aj (D.ar (dX e) 1)==x.2.1&&true)&&(D.aj (D.ar (dX e) 2)==x.2.2&&true))=(e.1==x):=rD e.1 x;rw[c1];refine bn GG (aA (λA8=>ao (by omega) (hn true ⟨hc,?_⟩)) λw6=>ao ⟨h0,GG⟩ (ao (by rw[zaa];exact Dl) (aq (sZ _) (ao (by omega) (hn _ ⟨hc,?_⟩)))))
  ·rw[jS,<-zdu,<-hb,A8];rfl
  rw[jS,<-zdu,<-hb,w6];rfl)
 (by
  rintro⟨l,o,p,a,x,h,i,k⟩ b j ae hj ⟨hc,hb⟩ aT
  try skip
  (rw[<-WW];delta dV eX e7 Zt mN vf Bs LU mr WV eY eN eO mH UA NC xd p8 Zda ZA Z6s ZW Zd6 Zk Zm rk tj JO LV og vg AP yp Dz Za Z9 Zw ZcZ)
  refine jU (by omega) (aT _ (λh=>by cases h) ?_);rw[hb,zaj])
 (by rintro s ae ⟨l,o,p,a,x,h,i,k,rfl,hc,hp⟩;refine⟨(l,o,p,a,x,h,i,k),h,rfl,⟨hc,by simp⟩,?_⟩;grind)
theorem Xb:LD X 107 8 (ah (aK 107 8) W2):=LD.idx (H:=[]) (hk:=[(13,ah (aK 107 13) WX)]) (by kernel_rfl) (by kernel_rfl) .nil (.cons Xa .nil)
 (A:=List bx×List bB×List (List UInt8)×bx×Int) (B:=List bB) (λa o k=>WU a.1 o a.2.2.1 (elA a.2.2.2.1 k.toNat) a.2.2.2.2 k) (λa=>a.2.2.1.length)
 (λa k o=>((0<=a.2.2.2.2/\a.2.2.2.2<a.1.length)/\D.nth (a.1.map dX) a.2.2.2.2.toNat=dX a.2.2.2.1/\a.2.2.1.length<=100000/\a.2.1.length+a.2.2.1.length<=1000000/\(0<=a.2.2.2.1.2.1.2.2/\a.2.2.2.1.2.1.2.2<=1000000000000))/\o=JM a.2.2.2.1 a.2.1 (a.2.2.1.take k))
 (λa z=>z=(.exit 2,el9 a.1 (JM a.2.2.2.1 a.2.1 a.2.2.1) a.2.2.2.2))
 (by
  rintro⟨l,o0,p,r,i⟩ o k ae h0 tU du ⟨⟨hi,hr,DV,hl,he⟩,ho⟩ hn aT
  try dsimp only at*
  (rw[<-WZ];delta mN xd p8 Ca Zk Zm og BV eX eY e7 eN eO mH Z2y mr FF ZA pW Za Z9 Zw Zt Zdj WY lX N8 UA NC Zda dV Z7 Z6M Zd6 rk tj JO LV vg AP yp Dz Cb Zdf)
  have dt:0<=i/\i<((l.map dX).length:Int):=by rw[zaa];exact hi
  have k9:o.length<=o0.length+k.toNat:=by rw[ho];exact Fz _ (by omega)
  have jS:=uN (r:=r) (o:=o0) du;rw[<-ho] at jS;have e1:D.nth (p.map D.str) k.toNat=D.str p[k.toNat]:=ax _ _ _ du;rw[hr];have hx:(r.2.1.1,r.2.1.2.1,r.2.1.2.2+k)=Br r k.toNat:=by unfold Br;rw[Int.toNat_of_nonneg h0]
  have c3:D.aj (D.ar (dX r) 3)=r.2.1.1:=rfl;have c4:D.aj (D.ar (dX r) 4)=r.2.1.2.1:=rfl;have c5:D.aj (D.ar (dX r) 5)=r.2.1.2.2:=rfl;rw[c3,c4,c5];have c1:(r.2.1.1==(0:Int)&&(r.2.1.2.1==(0:Int)&&true)&&(r.2.1.2.2+k==(0:Int)&&true))=(Br r k.toNat==aB):=by rw[<-hx];exact rD (r.2.1.1,r.2.1.2.1,r.2.1.2.2+k) aB
  rw[c1];have ha:elA r (k+1).toNat=Br r k.toNat:=by rw[show(k+1).toNat=k.toNat+1 by omega];rfl
  have hn: ∀o',o'=Rj o (Br r k.toNat) (elA r k.toNat) p[k.toNat]->ae (.normal,WU l o' p (Br r k.toNat) i (k+1)):=λo' h=>by have:=hn o' ⟨⟨hi,hr,DV,hl,he⟩,by rw[jS];exact h⟩;rw[ha] at this;exact this
  generalize elA r k.toNat=a at*
  refine bn tU (ao dt (aq (W7 _) (ao dt (aq (W7 _) (ao (by omega) ⟨l,o,p,a,Br r k.toNat,Br r k.toNat==aB,i,k,by rw[<-hx],by omega,λb hb=>aA (λw6=> ?_) λA8=> ?_⟩)))))
  ·have hs:Rj o (Br r k.toNat) a p[k.toNat]=o++[(Br r k.toNat,a,p[k.toNat])]:=by
    unfold Rj;refine zan λh=> ?_;rw[zbz,hb,Bool.or_eq_false_iff] at w6;rcases h with h |h
    ·rw[h] at w6;simp at w6
    rw[h] at w6;simp at w6
   have hy:=hn _ hs.symm;rw[e1];have t2:D.agg [D.int .i64 (Br r k.toNat).1,D.int .i64 (Br r k.toNat).2.1,D.int .i64 (Br r k.toNat).2.2,D.int .i64 a.1,D.int .i64 a.2.1,D.int .i64 a.2.2,D.str (D.cK (D.str p[k.toNat]))]=dX (Br r k.toNat,a,p[k.toNat]):=rfl;rw[t2,bO];simp only[WU,zah] at hy;refine ao ⟨h0,tU⟩ (ao (by rw[zaa];exact du) (aq (ql3 _) (aq (c8 rfl (by rw[zaa]) (by omega) (by decide)) (ao (by omega) ?_))));exact hy
  have hs:Rj o (Br r k.toNat) a p[k.toNat]=o:=by unfold Rj;refine zap ?_;rw[zc5,hb,zbh,zaW] at A8;exact A8
  exact ao (by omega) (hn _ hs.symm))
 (by
  rintro⟨l,o0,p,r,i⟩ o k ae hk ⟨⟨hi,hr,DV,hl,he⟩,ho⟩ aT
  try dsimp only at*
  (rw[<-WZ];delta mN xd p8 Ca Zk Zm og BV eX eY e7 eN eO mH Z2y mr FF ZA pW Za Z9 Zw Zt Zdj WY lX N8 UA NC Zda dV Z7 Z6M Zd6 rk tj JO LV vg AP yp Dz Cb Zdf)
  refine jU (by omega) (aT _ (λh=>by cases h) ?_);rw[ho,zaj])
 (by rintro s ae ⟨l,o,p,r,i,rfl,hc,hr,hp⟩;refine⟨(l,o,p,r,i),o,rfl,⟨⟨⟨hc.1,hc.2.1⟩,hr,hc.2.2.2.1,hc.2.2.2.2.1,hc.2.2.2.2.2⟩,by simp[JM]⟩,?_⟩;rintro z rfl;exact hp _ rfl)
theorem qcH:LD X 107 3 (ah (aK 107 3) qhb):=LD.idx (H:=[(144,uC)]) (hk:=[(8,ah (aK 107 8) W2)]) (by kernel_rfl) (by kernel_rfl) (.cons Iw .nil) (.cons Xb .nil)
 (A:=List bx) (B:=List bB) (λl o i=>el9 l o i) (λl=>l.length)
 (λl i o=>e9 l/\o=uM (l.take i))
 (λl z=>z=(.exit 0,⟨86,[(3,.sl 0 0 (uM l).length)],[(0,⟨0,none,gK false (uM l)⟩)]⟩))
 (by
  rintro l o i ae h0 bK aQ ⟨hc,ho⟩ hn aT
  try dsimp only at*
  (rw[<-W3];delta mN xd p8 Ca UA NC LV UB Zt Cb Zdo Z43 Z7 tu tj JO rE Zk Zm og mr vg AP yp Dz ZA tq Za Z9 Zw YM Zdn UC q9 JF Zo ug Zdf)
  have e1:D.nth (l.map dX) i.toNat=dX l[i.toNat]:=ax _ _ _ aQ;have jS:=uO aQ;rw[<-ho] at jS;have h1:=rn (l:=l) i.toNat (by omega);rw[<-ho] at h1;have h2:=Dx aQ;have h3:=WK l (i.toNat+1);have h4:=hc.2.1;have hl1:=hc.1;have h5:=hc.2.2 _ (zaq aQ);have h6:=AN l[i.toNat].2.2;have dt:0<=i/\i<((l.map dX).length:Int):=by rw[zaa];exact⟨h0,bK⟩
  rw[e1];generalize l[i.toNat]=r at*
  have hn: ∀o',o'=elR o r->ae (.normal,el9 l o' (i+1)):=λo' h=>hn o' ⟨hc,by rw[jS];exact h⟩;have rP: ∀p,p=n0 r.2.2->0<=i/\i<(l.length:Int)/\l.length<=1000000/\p.length<=100000/\o.length+p.length<=1000000/\(0<=r.2.1.2.2/\r.2.1.2.2<=1000000000000):=λp hp=>by subst hp;exact⟨h0,bK,hc.1,by omega,by omega,h5.2⟩
  refine bn dt.2 (ao dt (aq (W7 _) ⟨r.2.2,rfl,rfl,by omega,λhv=>ao dt (aq (W7 _) ?_),λhv p hp=>ao dt (aq (W7 _) ?_)⟩))
  ·have hp:[]=n0 r.2.2:=by unfold n0;rw[hv];rfl
   exact⟨l,o,[],r,i,rfl,rP _ hp,e1,λo' ff=>ao (by omega) (hn o' (by rw[ff];unfold elR;rw[<-hp]))⟩
  have hp:p=n0 r.2.2:=by unfold n0;rw[hv,zap rfl];exact hp
  exact⟨l,o,p,r,i,rfl,rP _ hp,e1,λo' ff=>ao (by omega) (hn o' (by rw[ff];unfold elR;rw[<-hp]))⟩)
 (by
  rintro l o i ae hi ⟨hc,ho⟩ aT
  try dsimp only at*
  (rw[<-W3];delta mN xd p8 Ca UA NC LV UB Zt Cb Zdo Z43 Z7 tu tj JO rE Zk Zm og mr vg AP yp Dz ZA tq Za Z9 Zw YM Zdn UC q9 JF Zo ug Zdf)
  refine jU (by rw[zaa];omega) (aT _ (λh=>by cases h) ?_);rw[ho,zaj])
 (by rintro s ae ⟨l,rfl,hc,hp⟩;refine⟨l,[],rfl,⟨hc,rfl⟩,?_⟩;rintro z rfl;exact hp _ rfl)
theorem qdZ:FD X 107 W4:=FD.mk (H:=[]) (hk:=[(3,ah (aK 107 3) qhb)]) (by kernel_rfl) .nil (.cons qcH .nil) (by
 intro ps R ae hh;obtain⟨l,rfl,rfl,hs,hp⟩:=hh
 (rw[<-qj4];delta mN xd p8 Ca mr vg YN Zdp Z7 K6 ZY T6 yp Dz Zdq)
 exact⟨l,rfl,hs,λo ho=>hp o ho⟩)
theorem Xc:LD X 80 8 (ah (aK 80 8) W5):=LD.ins (H:=[(88,gG)]) (hk:=[]) (by kernel_rfl) (by kernel_rfl) (.cons lK .nil) .nil
 (A:=List bB×Nat×Int) (α:=av) (λa o k=>qcE a.1 o a.2.1 a.2.2 k) mh (λa=>a.2.1) (λ_=>True) (λa o=>(.exit 2,⟨64,[(5,.sl 0 0 a.1.length),(6,.sl 1 0 a.2.1),(7,iD a.2.2)],[(0,⟨0,none,gK false a.1⟩),(1,⟨0,none,fS false o⟩)]⟩)) (λ_ _ h=>by cases h)
 (by
  rintro⟨l,n,i⟩ o k ae _ h0 xt k9 hk hz bS cv
  try dsimp only at*
  subst xt
  (rw[<-qhc];delta fg Bf mN xd p8 Zk Zm o5 K9 mr vg Qy Zdt Zt FT FU FV Q7 Zc Z5l Yw Z8r ZG Z8q Ub Zo Zl AV Z8v Q8 oi Z8n uZ Za Z9 Zb vN Vu l8 ZF)
  refine cr (λhp=> ?_) λhp=>hz (by omega);have ft:k.toNat-1<o.length:=by omega
  have ek:(k-1).toNat=k.toNat-1:=by omega
  have e1:D.nth (o.map bV) k.toNat=bV o[k.toNat]:=ax _ _ _ hk;have e2:D.nth (o.map bV) (k.toNat-1)=bV o[k.toNat-1]:=ax _ _ _ ft;have bS:=bS hp;have cv:=cv hp;have vZ:=jj bV o k.toNat o[k.toNat] o[k.toNat-1];have e3: ∀z,D.nth ((o.map bV).set k.toNat z) (k.toNat-1)=bV o[k.toNat-1]:=λz=>by unfold D.nth;rw[zad,za3 (by omega)];simp[ft]
  rw[ek,e1,e2];simp only[e3];generalize o[k.toNat]=x at*
  generalize o[k.toNat-1]=y at*
  simp only[zaa,zbj] at cv⊢;have v7:0<=k/\k<(o.length:Int):=⟨h0,by omega⟩
  have v8:0<=k-1/\k-1<(o.length:Int):=⟨by omega,by omega⟩
  have hf:(-9223372036854775808:Int)<=k-1/\k-1<=9223372036854775807:=by omega
  refine ao v7 (ao hk (aq (mg _) (ao hf (ao v8 (ao ft (aq (mg _) ⟨(x).1,(x).2.1,(x).2.2,(y).1,(y).2.1,(y).2.2,rfl,rfl,cr (λh=> ?_) λh=>bS (by rw[<-zaQ];exact λh2=>h ((il (x) (y)).2 h2))⟩))))));have hy:=cv ((il (x) (y)).1 h);simp only[qcE,fS] at hy;rw[<-vZ] at hy;refine ao hf (ao hf (ao v8 (ao ft (aq (mg _) (ao v7 (ao hk (aq (mg _) (ao v7 (ao hk (aq (mg _) (ao v8 (ao ft (aq (mg _) (ao hf ?_))))))))))))));exact hy)
 (by rintro s ae ⟨l,o,x,n,i,k,rfl,⟨hk,hn,ho⟩,hp⟩;refine⟨(l,n,i),o,x,k,rfl,hk,trivial,⟨hn.symm,ho⟩,?_⟩;have:=hp _ rfl;rw[es9,jN,<-hn] at this;exact this)
theorem qcI:LD X 80 4 (ah (aK 80 4) qhd):=LD.idx (H:=[]) (hk:=[(8,ah (aK 80 8) W5)]) (by kernel_rfl) (by kernel_rfl) .nil (.cons Xc .nil)
 (A:=List bB) (B:=List av) (λl o i=>es9 l o i) (λl=>l.length) (λl i o=>l.length<=1000000/\o=cm mh ((l.take i).map (·.1)))
 (λl x=>x=(.exit 0,⟨64,[(6,.sl 0 0 (cm mh (l.map (·.1))).length)],[(0,⟨0,none,fS false (cm mh (l.map (·.1)))⟩)]⟩))
 (by
  rintro l o i ae h0 bK aQ ⟨hm,ho⟩ hn aT
  try dsimp only at*
  (rw[<-W6];delta fg Bf r7 fF pC ZA ZT Za Z9 Zw nu vb Z8C Zk Zm rk JJ K9 Zt mN vf YO YP Zdw Qs xd p8 o5 mr vg Qy Zdx oi Bs LU WV ZcZ)
  have k9:o.length<=i.toNat:=by rw[ho,lb,zaa,zas];exact Nat.min_le_left _ _
  have e1:D.nth (l.map dX) i.toNat=dX l[i.toNat]:=ax _ _ _ aQ;have iv:cm mh ((l.take (i.toNat+1)).map (·.1))=cD mh o l[i.toNat].1:=by rw[zae aQ,zau,List.map_singleton,sU,ho]
  have bZ:=λo' (ff:o'=cD mh o l[i.toNat].1)=>hn o' ⟨hm,by rw[iv];exact ff⟩;generalize l[i.toNat]=d at*
  rw[e1];have t1:List.take o.length (o.map bV)++[bV d.1]=(o++[d.1]).map bV:=bO bV o d.1;simp only[zaa,zao,zat,zaF];refine bn bK (ao ⟨h0,bK⟩ (ao aQ (aq (sZ _) (aq ?_ (ao (by omega) ⟨l,o,d.1,o.length+1,i,((o.length+1:Nat):Int)-1,congrArg (λz=>(⟨64,[(5,.sl 0 0 l.length),(6,.sl 1 0 (o.length+1)),(7,iD i),(8,iD (((o.length+1:Nat):Int)-1))],[(0,⟨0,none,gK false l⟩),(1,⟨0,none,.arr 50 false z⟩)]⟩:S)) t1,⟨by omega,rfl,by omega⟩,λo' ff=>ao (by omega) (bZ o' ff)⟩)))));rw[zab];exact⟨by simp,cd (by omega) (by omega)⟩)
 (by
  rintro l o i ae hi ⟨hm,ho⟩ aT
  try dsimp only at*
  (rw[<-W6];delta fg Bf r7 fF pC ZA ZT Za Z9 Zw nu vb Z8C Zk Zm rk JJ K9 Zt mN vf YO YP Zdw Qs xd p8 o5 mr vg Qy Zdx oi Bs LU WV ZcZ)
  refine jU (by omega) (aT _ (λh=>by cases h) ?_);rw[ho,zaj])
 (by rintro s ae ⟨l,rfl,hs,hp⟩;refine⟨l,[],rfl,⟨hs,rfl⟩,?_⟩;rintro x rfl;exact hp _ rfl)
theorem qj7:FD X 80 qhe:=FD.mk (H:=[(59,WR),(107,W4)]) (hk:=[(4,ah (aK 80 4) qhd)]) (by kernel_rfl) (.cons qdY (.cons qdZ .nil)) (.cons qcI .nil) (by
 intro ps R ae hh;obtain⟨l,x,rfl,rfl,⟨hs,h2,hr⟩,hp⟩:=hh
 (rw[<-qj5];delta fg Bf r7 fF pC mr N8 JK mN xd p8 Z7 pU rE Z3y vg Qy Zdy yp Zdz dn iR WQ Zo eX eY e7 eN eO l9 e8 cg ct)
 refine⟨l,x,rfl,rfl,⟨hs,h2⟩,λr uW=>⟨r,by rw[zal (by simp)],rfl,by rw[uW];exact hr,λo ho=>⟨o,rfl,?_,λo' ff=>hp o' ?_⟩⟩⟩
 ·have:=rn (l:=r) _ (zak _);rw[zaj,<-ho] at this;have:=hr.2.1;rw[<-uW] at this;omega
 rw[ff,ho,uW];rfl)
end
abbrev saH(a b:List fH)(k:Int):S:=⟨26,[(0,esP a),(1,esP b),(5,iD k)],[]⟩
def gSa:S->K (PX×S):=λs ae=> ∃v w,s=saH v w 0/\(v.length=w.length/\v.length<=3000000)/\(v≠w->ae (.ret,⟨26,[(4,kM false)],[]⟩))/\(v=w->ae (.exit 0,⟨26,[],[]⟩))
def LX:bg:=λps R ae=> ∃v w,ps=[esP v,esP w]/\R=[]/\v.length<=3000000/\ ∀b,(b=true↔v=w)->ae (kM b,[])
def ZdB(a:List fH):P:=P.d (D.sl 3 (List.map u4 a))
def ZdA(a:List fH):Int:=(↑(List.length (List.map u4 a)):Int)
theorem qj8(a b:List fH)(k:Int)(ae:PX×S->Prop):(bif decide (k<ZdA a) then ob (decide ((0:Int)<=k/\k<ZdA a)) (ob (cw PR (74:TypeId) (D.nth (List.map u4 a) (Zt k))) (ob (decide ((0:Int)<=k/\k<ZdA b)) (ob (cw PR (74:TypeId) (D.nth (List.map u4 b) (Zt k))) (bif !(D.cK (D.ar (D.nth (List.map u4 a) (Zt k)) 0)==D.cK (D.ar (D.nth (List.map u4 b) (Zt k)) 0)&&(D.eG (D.ar (D.nth (List.map u4 a) (Zt k)) 1)==D.eG (D.ar (D.nth (List.map u4 b) (Zt k)) 1)&&(D.cK (D.ar (D.nth (List.map u4 a) (Zt k)) 2)==D.cK (D.ar (D.nth (List.map u4 b) (Zt k)) 2)&&true))) then ae (PX.ret,S.mk 26 Zv []) else ob (Zw k) (ae (PX.normal,S.mk 26 ((0,ZdB a)::(1,ZdB b)::ZB k) [])))))) else ZC ae)=(aD [] [] 18 4 (saH a b k)) ae:=by kernel_rfl
def ZdC(v:List fH)(w:List fH):S:=S.mk 26 ((0,ZdB v)::(1,ZdB w)::ZV) []
theorem ql4(a b:List fH)(ae:P×List (Nat×En)->Prop):(bif ZdA a !=ZdA b then Z4 ae else∃(v:List fH) (w:List fH),ZdC a b=ZdC v w/\(List.length v=List.length w/\List.length v<=3000000)/\(v≠w->Z4 ae)/\(v=w->ZX ae))=(aJ [] [(4,ah (aK 18 4) gSa)] 18 [esP a,esP b] []) ae:=by kernel_rfl
def goO(on:Bool)(x:av)(o:bc):List av:=if o.kind=4/\o.node=x/\on=true then o.elems else []
def JP(on:Bool)(x:av)(l:List bc):List av:=l.flatMap (goO on x)
def iT(l:List ak)(o:List ay)(x:av):List av:=l.flatMap λg=>JP (decide (g.s∈o)) x g.ops
abbrev go8(l:List ak)(on:List ay)(x:av)(o:List av)(i:Int):S:=⟨58,[(0,bp l),(1,eS on),(5,.ref 0 0 0),(7,.sl 1 0 o.length),(8,iD i)],[(0,⟨0,none,pe x⟩),(1,⟨0,none,fS false o⟩)]⟩
abbrev Xd(l:List ak)(on:List ay)(x:av)(o:List av)(i k:Int):S:=⟨58,[(0,bp l),(1,eS on),(5,.ref 0 0 0),(7,.sl 1 0 o.length),(8,iD i),(9,iD k)],[(0,⟨0,none,pe x⟩),(1,⟨0,none,fS false o⟩)]⟩
def ZdE(x:av)(o:List av):List (Nat×En):=[nt x,(1,Bf o)]
def ZdD(o:List av):Nat×P:=(7,P.sl 1 0 (fF o))
def ZdF(k:Int)(ae:PX×S->Prop)(l:List ak)(on:List ay)(o:List av)(i:Int)(x:av):Prop:=ob (Zw k) (ae (PX.normal,S.mk 58 (de l::rj on::qN::ZdD o::rk i::ZQ k) (ZdE x o)))
theorem Xe(l:List ak)(on:List ay)(x:av)(o:List av)(i k:Int)(ae:PX×S->Prop):(ob (iC i l) (ob (dM l i) (bif LL k l i then ob (iC i l) (ob (dM l i) (ob (Ft k l i) (ob (Fs l i k) (bif Fq l i k==(4:Int) then bif ZcM l i k x then ob (iC i l) (ob (dM l i) (∃(au:List ay) (aX:ay),kC on::IJ l i=kC au::jy aX/\Zo/\kQ au/\ ∀(b:Bool),Fu b au aX->bif b then ob (Nat.ble (fF o) (oi o)&&aI (fF o+List.length (D.dS (D.ar (jV l i k) 17))) 24) (ob (Zw k) (ae (PX.normal,S.mk 58 (de l::rj on::qN::(7,P.sl 1 0 (fF o+List.length (D.dS (D.ar (jV l i k) 17))))::rk i::ZQ k) [nt x,(1,En.mk 0 none (Obj.arr (50:TypeId) false (Qs o++D.dS (D.ar (jV l i k) 17))))]))) else ZdF k ae l on o i x)) else ZdF k ae l on o i x else ZdF k ae l on o i x)))) else ae (PX.exit 2,S.mk 58 (de l::rj on::qN::ZdD o::JJ i) (ZdE x o)))))=(aD [(42,Vs)] [] 60 6 (Xd l on x o i k)) ae:=by kernel_rfl
def QA(l:List ak)(on:List ay):Prop:=(l.length<=1000000/\cG l<=1000/\on.length<=1000000)/\ ∀g∈l,∀o∈g.ops,o.elems.length<=2000
def Xf:S->K (PX×S):=λs ae=> ∃(l:List ak) (on:List ay) (x:av) (o:List av) (i:Int) (g:ak),AtG l i g/\s=Xd l on x o i 0/\((0<=i/\i<l.length)/\on.length<=1000000/\(o.length<=100000000/\g.ops.length<=1000)/\ ∀o∈g.ops,o.elems.length<=2000)/\ ∀o',o'=o++JP (decide (g.s∈on)) x g.ops->ae (.exit 2,go8 l on x o' i)
theorem Xg(l:List ak)(on:List ay)(x:av)(o:List av)(i:Int)(ae:PX×S->Prop):(bif nv i l then∃(au:List ak) (bG:List ay) (aX:av) (aU:List av) (bb:Int) (g:ak),AtG au bb g/\S.mk 58 (de l::rj on::qN::ZdD o::rk i::Yt) (ZdE x o)=S.mk 58 (de au::rj bG::qN::ZdD aU::rk bb::Yt) (ZdE aX aU)/\(((0:Int)<=bb/\bb<l4 au)/\kQ bG/\(fF aU<=100000000/\List.length (ak.ops g)<=1000)/\ ∀(o:bc),o∈ak.ops g->List.length (bc.elems o)<=2000)/\ ∀(o':List av),o'=aU++JP (decide (ak.s g∈bG)) aX (ak.ops g)->ob (Zw bb) (ae (PX.normal,S.mk 58 (de au::rj bG::qN::ZdD o'::pW bb) (ZdE aX o'))) else ae (PX.exit 0,S.mk 58 [(7,pC o)] (r7 o)))=(aD [] [(6,ah (aK 60 6) Xf)] 60 3 (go8 l on x o i)) ae:=by kernel_rfl
def qhf:S->K (PX×S):=λs ae=> ∃l on x,s=go8 l on x [] 0/\QA l on/\ ∀o,o=iT l on x->ae (.exit 0,⟨58,[(7,.sl 0 0 o.length)],[(0,⟨0,none,fS false o⟩)]⟩)
def ZdG(au:List ak)(bG:List ay)(aX:av):S:=S.mk 58 (de au::rj bG::qN::(7,rE)::tu) [nt aX,(1,JK)]
theorem qj9(l:List ak)(on:List ay)(x:av)(ae:P×List (Nat×En)->Prop):(∃(au:List ak) (bG:List ay) (aX:av),ZdG l on x=ZdG au bG aX/\QA au bG/\ ∀(o:List av),o=iT au bG aX->ae (pC o,r7 o))=(aJ [] [(3,ah (aK 60 3) qhf)] 60 [bp l,eS on,.d (bV x)] []) ae:=by kernel_rfl
def Xh:bg:=λps R ae=> ∃l on x,ps=[bp l,eS on,.d (bV x)]/\R=[]/\QA l on/\ ∀o,o=iT l on x->ae (.sl 0 0 o.length,[(0,⟨0,none,fS false o⟩)])
abbrev be8(a:List bB)(x:av)(o:List bB)(i:Int):S:=⟨67,[(0,n9 a),(3,.ref 0 0 0),(5,.sl 1 0 o.length),(6,iD i)],[(0,⟨0,none,pe x⟩),(1,⟨0,none,gK false o⟩)]⟩
abbrev qcJ(a:List bB)(x:av)(o:List bB)(n:Nat)(i k:Int):S:=⟨67,[(0,n9 a),(3,.ref 0 0 0),(5,.sl 1 0 n),(6,iD i),(7,iD k)],[(0,⟨0,none,pe x⟩),(1,⟨0,none,gK false o⟩)]⟩
def LZ(a:List bB):Nat×P:=(0,P.d (D.sl 7 (mN a)))
def ZdM(ae:PX×S->Prop)(a:List bB)(n:Nat)(i:Int)(x:av)(o:List bB):Prop:=ae (PX.exit 2,S.mk 67 (LZ a::cE::JD n::Bg i) [nt x,(1,xd o)])
def ZdI(o:List bB)(k:Int):List D:=[YP o k,YO o k,D.int .i64 (D.aj (D.ar (vf o k) 2)),D.int .i64 (D.aj (D.ar (vf o k) 3)),D.int .i64 (D.aj (D.ar (vf o k) 4)),D.int .i64 (D.aj (D.ar (vf o k) 5)),D.str (D.cK (D.ar (vf o k) 6))]
def QB(o:List bB)(k:Int):D:=D.nth (mN o) (Zc k)
def ZdJ(o:List bB)(k:Int):List D:=List.set (mN o) (Zt k) (D.aP (D.agg (ZdI o k)) [D.int .i64 (D.aj (D.ar (QB o k) 0)),D.int .i64 (D.aj (D.ar (QB o k) 1)),D.int .i64 (D.aj (D.ar (QB o k) 2)),D.int .i64 (D.aj (D.ar (QB o k) 3)),D.int .i64 (D.aj (D.ar (QB o k) 4)),D.int .i64 (D.aj (D.ar (QB o k) 5)),D.str (D.cK (D.ar (QB o k) 6))])
def ZdK(o:List bB)(k:Int):D:=D.nth (ZdJ o k) (Zc k)
theorem qhg(a:List bB)(x:av)(o:List bB)(n:Nat)(i k:Int)(ae:PX×S->Prop):(bif ZF k then ob (l8 k n) (ob (LU k o) (ob (Bs o k) (ob (Zb k) (ob (uZ k n) (ob (decide (Zc k<List.length (mN o))) (ob (cw PR (112:TypeId) (QB o k)) (∃(t:Int) (r:Int) (bb:Int) (t':Int) (r':Int) (i':Int),[P.d (Zdw o k),P.d (D.agg [D.int .i64 (D.aj (D.ar (QB o k) 0)),D.int .i64 (D.aj (D.ar (QB o k) 1)),D.int .i64 (D.aj (D.ar (QB o k) 2))])]=P.d (D.agg (Zk t::Zk r::Zl bb))::AV t' r' i'/\Zo/\bif decide (r3 t r bb t' r' i'>(0:Int)) then ob (Zb k) (ob (Zb k) (ob (uZ k n) (ob (decide (Zc k<List.length (mN o))) (ob (cw PR (112:TypeId) (QB o k)) (ob (l8 k n) (ob (LU k o) (ob (Bs o k) (ob (l8 k n) (ob (LU k o) (ob (Bs o k) (ob (uZ k n) (ob (decide (Zc k<List.length (ZdJ o k))) (ob (cw PR (112:TypeId) (ZdK o k)) (ob (Zb k) (ae (PX.normal,S.mk 67 [LZ a,cE,JD n,ZS i,(7,ZG k)] [nt x,(1,En.mk 0 none (Obj.arr (112:TypeId) false (List.set (ZdJ o k) (Zc k) (D.aP (D.agg [D.int .i64 (D.aj (D.ar (ZdK o k) 0)),D.int .i64 (D.aj (D.ar (ZdK o k) 1)),D.int .i64 (D.aj (D.ar (ZdK o k) 2)),D.int .i64 (D.aj (D.ar (ZdK o k) 3)),D.int .i64 (D.aj (D.ar (ZdK o k) 4)),D.int .i64 (D.aj (D.ar (ZdK o k) 5)),D.str (D.cK (D.ar (ZdK o k) 6))]) (ZdI o k)))))])))))))))))))))) else ZdM ae a n i x o))))))) else ZdM ae a n i x o)=(aD [(88,gG)] [] 121 8 (qcJ a x o n i k)) ae:=by kernel_rfl
def Xi:S->K (PX×S):=λst ae=> ∃a x o y n i k,st=qcJ a x (o++[y]) n i k/\(k=(o.length:Int)/\n=o.length+1/\o.length<=1000000)/\ ∀o',o'=cD gtE o y->ae (.exit 2,be8 a x o' i)
def ZdQ(o:List bB)(a:List bB)(i:Int):List (Nat×En):=[(1,En.mk 0 none (Obj.arr (112:TypeId) false (FF o++[D.agg (ZdI a i)])))]
def Xj(o:List bB)(a:List bB)(i:Int):Nat:=mr o+List.length [D.agg (ZdI a i)]
def ZdO(i:Int)(ae:PX×S->Prop)(a:List bB)(o:List bB)(x:av):Prop:=ob (Zw i) (ae (PX.normal,S.mk 67 (LZ a::cE::(5,P.sl 1 0 (mr o))::ZL i) [nt x,(1,xd o)]))
def ZdN(i:Int)(a:List bB):Bool:=decide ((0:Int)<=i/\i<(↑(List.length (mN a)):Int))
theorem Xk(a:List bB)(x:av)(o:List bB)(i:Int)(ae:PX×S->Prop):(bif decide (i<(↑(List.length (mN a)):Int)) then ob (ZdN i a) (ob (Bs a i) (bif !(D.aj (D.ar (vf a i) 3)==Prod.fst x&&(D.aj (D.ar (vf a i) 4)==e7 x&&true)&&(D.aj (D.ar (vf a i) 5)==eX x&&true)) then ZdO i ae a o x else ob (ZdN i a) (ob (Bs a i) (ob (WY o&&aI (Xj o a i) 64) (ob (decide (Z9<=(↑(Xj o a i):Int)-(1:Int)/\(↑(Xj o a i):Int)-(1:Int)<=Za)) (∃(gX:List bB) (aX:av) (aU:List bB) (y:bB) (n:Nat) (bb:Int) (k:Int),S.mk 67 [LZ a,cE,(5,P.sl 1 0 (Xj o a i)),ZS i,(7,P.d (D.int .i64 ((↑(Xj o a i):Int)-(1:Int))))] (nt x::ZdQ o a i)=S.mk 67 [LZ gX,cE,JD n,ZS bb,o5 k] [nt aX,(1,En.mk 0 none (Obj.arr (112:TypeId) false (List.map dX (aU++[y]))))]/\(k=(↑(mr aU):Int)/\n=mr aU+1/\N8 aU)/\ ∀(o':List bB),o'=cD gtE aU y->ZdO bb ae gX o' aX)))))) else ae (PX.exit 0,S.mk 67 [Qy o] (Ca o)))=(aD [] [(8,ah (aK 121 8) Xi)] 121 3 (be8 a x o i)) ae:=by kernel_rfl
def qhh:S->K (PX×S):=λs ae=> ∃a x,s=be8 a x [] 0/\a.length<=1000000/\ ∀o,o=jm a x->ae (.exit 0,⟨67,[(5,.sl 0 0 o.length)],[(0,⟨0,none,gK false o⟩)]⟩)
def ZdR(gX:List bB)(aX:av):S:=S.mk 67 (LZ gX::cE::Z3h) [nt aX,(1,Zdp)]
theorem qka(a:List bB)(x:av)(ae:P×List (Nat×En)->Prop):(∃(gX:List bB) (aX:av),ZdR a x=ZdR gX aX/\N8 gX/\ ∀(o:List bB),o=jm gX aX->YN ae o)=(aJ [] [(3,ah (aK 121 3) qhh)] 121 [n9 a,.d (bV x)] []) ae:=by kernel_rfl
def Xl:bg:=λps R ae=> ∃a x,ps=[n9 a,.d (bV x)]/\R=[]/\a.length<=1000000/\ ∀o,o=jm a x->ae (.sl 0 0 o.length,[(0,⟨0,none,gK false o⟩)])
abbrev or8(a o w:List bB):S:=⟨35,[(3,.sl 0 0 a.length),(4,.sl 1 0 o.length),(5,.sl 2 0 w.length)],[(0,⟨0,none,gK true a⟩),(1,⟨0,none,gK false o⟩),(2,⟨0,none,gK false w⟩)]⟩
def ZdW(a:List bB):Nat×En:=(0,En.mk 0 none (Obj.arr (112:TypeId) true (mN a)))
def ZdU(aU:List bB):Nat:=0+List.length (FF aU)
def ZdV(aU:List bB)(w:List bB):Nat:=ZdU aU+List.length (List.take (mr w-1) (List.drop 1 (mN w)))
def Rl(w:List bB):D:=D.nth (mN w) 0
def ZdT(w:List bB):List D:=[D.agg [D.int .i64 (D.aj (D.ar (Rl w) 0)),D.int .i64 (D.aj (D.ar (Rl w) 1)),D.int .i64 (D.aj (D.ar (Rl w) 2)),D.int .i64 (D.aj (D.ar (Rl w) 3)),D.int .i64 (D.aj (D.ar (Rl w) 4)),D.int .i64 (D.aj (D.ar (Rl w) 5)),D.str (D.cK (D.ar (Rl w) 6))]]
theorem qhi(a o w:List bB)(ae:PX×S->Prop):(bif decide ((↑(mr w):Int)>(0:Int)) then ob (decide ((0:Int)<=(0:Int)/\(0:Int)<(↑(mr w):Int))) (ob (decide (0<List.length (mN w))) (ob (cw PR (112:TypeId) (Rl w)) (ob (decide ((0:Int)<=(1:Int)/\(1:Int)<=(↑(mr w):Int))) (ob (WY o&&aI (mr o+List.length (ZdT w)) 64) (∃(gX:List bx) (x:av),[P.d (D.sl 7 (FF a)),P.d (D.agg [D.int .i64 (D.aj (D.ar (Rl w) 0)),D.int .i64 (D.aj (D.ar (Rl w) 1)),D.int .i64 (D.aj (D.ar (Rl w) 2))])]=yp gX::e8 x/\Zo/\YM gX/\ ∀(aU:List bB),aU=jm gX x->ob (Nat.ble 0 0&&aI (ZdU aU) 64) (ob (Nat.ble (ZdU aU) (List.length ([]++FF aU))&&aI (ZdV aU w) 64) (ae (PX.normal,S.mk 35 [AP a,(4,P.sl 1 0 (mr o+List.length (ZdT w))),(5,P.sl 2 0 (ZdV aU w))] [ZdW a,(1,En.mk 0 none (Obj.arr (112:TypeId) false (FF o++ZdT w))),(2,En.mk 0 none (Obj.arr (112:TypeId) false (List.take (ZdU aU) ([]++FF aU)++List.take (mr w-1) (List.drop 1 (mN w)))))])))))))) else ae (PX.exit 0,S.mk 35 [(4,vg o)] (Ca o)))=(aD [(121,Xl)] [] 93 4 (or8 a o w)) ae:=by kernel_rfl
def Xm(a:List bB):Prop:=a.length<=1000000/\(a.map (·.1)).Nodup/\ ∀e∈a,e.1≠aB
def qhj:S->K (PX×S):=λs ae=> ∃a,s=or8 a [] (jm a aB)/\Xm a/\ ∀o,o=wa a->ae (.exit 0,⟨35,[(4,.sl 0 0 o.length)],[(0,⟨0,none,gK false o⟩)]⟩)
def ZdX:P:=P.d (D.agg [Z7,Z7,Z7])
theorem qkb(l:List bx)(ae:P×List (Nat×En)->Prop):(∃(au:List bx),[yp l]=[yp au]/\Zo/\e9 au/\ ∀(o:List bB),o=uM au-> ∃(a:List bx) (x:av),[P.d (D.sl 7 (FF o)),ZdX]=yp a::e8 x/\Zo/\YM a/\ ∀(aU:List bB),aU=jm a x-> ∃(a:List bB),S.mk 35 [AP o,(4,rE),(5,P.sl 2 0 (mr aU))] [ZdW o,(1,Zdp),(2,xd aU)]=S.mk 35 [AP a,(4,rE),(5,P.sl 2 0 (List.length (jm a aB)))] [ZdW a,(1,Zdp),(2,En.mk 0 none (Obj.arr (112:TypeId) false (List.map dX (jm a aB))))]/\Xm a/\ ∀(o:List bB),o=wa a->YN ae o)=(aJ [(107,W4),(121,Xl)] [(4,ah (aK 93 4) qhj)] 93 [n9 l] []) ae:=by kernel_rfl
def qhk:bg:=λps R ae=> ∃l,ps=[n9 l]/\R=[]/\e9 l/\ ∀o,o=wa (uM l)->ae (.sl 0 0 o.length,[(0,⟨0,none,gK false o⟩)])
def JQ(on:List ay)(g:List av)(e:bB):Bool:=decide (BT e.1∈on)&& !decide (e.1∈g)
def N9(l:List bx)(on:List ay)(g:List av):List bB:=(wa (uM l)).filter (JQ on g)
abbrev se8(on:List ay)(g:List av)(a o:List bB)(i:Int):S:=⟨44,[(1,eS on),(2,cI g),(7,.sl 0 0 a.length),(8,.sl 1 0 o.length),(9,iD i)],[(0,⟨0,none,gK false a⟩),(1,⟨0,none,gK false o⟩)]⟩
def ZdY(i:Int)(ae:PX×S->Prop)(on:List ay)(g:List av)(a:List bB)(o:List bB):Prop:=ob (Zw i) (ae (PX.normal,S.mk 44 (rj on::(2,gJ g)::(7,vg a)::(8,P.sl 1 0 (mr o))::ZQ i) [p8 a,(1,xd o)]))
theorem Xn(on:List ay)(g:List av)(a o:List bB)(i:Int)(ae:PX×S->Prop):(bif ZcZ i a then ob (WV i a) (ob (LU i a) (ob (Bs a i) (∃(l:List ay) (x:ay),[kC on,P.d (D.agg [YP a i,YO a i])]=kC l::jy x/\Zo/\kQ l/\ ∀(b:Bool),Fu b l x->bif b then ob (WV i a) (ob (LU i a) (ob (Bs a i) (∃(l:List av) (x:av),[gJ g,P.d (Zdw a i)]=gJ l::e8 x/\Zo/\nu l/\bif !decide (x∈l) then ob (WV i a) (ob (LU i a) (ob (Bs a i) (ob (WY o&&aI (Xj o a i) 64) (ob (Zw i) (ae (PX.normal,S.mk 44 (rj on::(2,gJ g)::(7,vg a)::(8,P.sl 1 0 (Xj o a i))::ZQ i) (p8 a::ZdQ o a i))))))) else ZdY i ae on g a o))) else ZdY i ae on g a o))) else ae (PX.exit 0,S.mk 44 [(8,vg o)] (Ca o)))=(aD [(42,Vs),(91,K0)] [] 58 4 (se8 on g a o i)) ae:=by kernel_rfl
def qhl:S->K (PX×S):=λs ae=> ∃on g a,s=se8 on g a [] 0/\(on.length<=1000000/\g.length<=1000000/\a.length<=1000000)/\ ∀o,o=a.filter (JQ on g)->ae (.exit 0,⟨44,[(8,.sl 0 0 o.length)],[(0,⟨0,none,gK false o⟩)]⟩)
def ZdZ(bG:List ay)(bq:List av)(a:List bB):S:=S.mk 44 (rj bG::(2,gJ bq)::(7,vg a)::(8,rE)::Yt) [p8 a,(1,Zdp)]
theorem qkc(l:List bx)(on:List ay)(g:List av)(ae:P×List (Nat×En)->Prop):(∃(au:List bx),[yp l]=[yp au]/\Zo/\e9 au/\ ∀(o:List bB),o=wa (uM au)-> ∃(bG:List ay) (bq:List av) (a:List bB),ZdZ on g o=ZdZ bG bq a/\(kQ bG/\nu bq/\N8 a)/\ ∀(o:List bB),o=List.filter (JQ bG bq) a->YN ae o)=(aJ [(93,qhk)] [(4,ah (aK 58 4) qhl)] 58 [n9 l,eS on,cI g] []) ae:=by kernel_rfl
def L0:bg:=λps R ae=> ∃l on g,ps=[n9 l,eS on,cI g]/\R=[]/\(e9 l/\on.length<=1000000/\g.length<=1000000)/\ ∀o,o=N9 l on g->ae (.sl 0 0 o.length,[(0,⟨0,none,gK false o⟩)])
def ki(l:List bB):List UInt8:=l.flatMap (·.2.2)
abbrev tx8(l:List bB)(s:List UInt8)(i:Int):S:=⟨19,[(0,n9 l),(3,sD s),(4,iD i)],[]⟩
theorem Xo(l:List bB)(s:List UInt8)(i:Int)(ae:PX×S->Prop):(bif decide (i<(↑(List.length (mN l)):Int)) then ob (ZdN i l) (ob (Bs l i) (ob (decide (q9 s+List.length (D.cK (D.ar (vf l i) 6))<=ZJ)) (ob (Zw i) (ae (PX.normal,S.mk 19 (LZ l::(3,P.d (D.str (s++D.cK (D.ar (vf l i) 6))))::tq i) []))))) else ae (PX.exit 0,S.mk 19 [(3,P.d (D.str s))] []))=(aD [] [] 33 3 (tx8 l s i)) ae:=by kernel_rfl
def qhm:S->K (PX×S):=λs ae=> ∃l,s=tx8 l [] 0/\(l.length<=1000000/\(ki l).length<=1000000000000)/\ ∀t,t=ki l->ae (.exit 0,⟨19,[(3,sD t)],[]⟩)
def Ze0(au:List bB):S:=S.mk 19 (LZ au::(3,P.d vJ)::K6) []
theorem qkd(l:List bB)(ae:P×List (Nat×En)->Prop):(∃(au:List bB),Ze0 l=Ze0 au/\(N8 au/\List.length (ki au)<=1000000000000)/\ ∀(t:List UInt8),t=ki au->ae (P.d (D.str t),[]))=(aJ [] [(3,ah (aK 33 3) qhm)] 33 [n9 l] []) ae:=by kernel_rfl
def Xp:bg:=λps R ae=> ∃l,ps=[n9 l]/\R=[]/\(l.length<=1000000/\(ki l).length<=1000000000000)/\ ∀t,t=ki l->ae (sD t,[])
abbrev knH(l:List ak)(v:List Int)(o:List ak)(i:Int):S:=⟨35,[(0,bp l),(1,vD v),(5,.sl 0 0 o.length),(6,iD i)],[(0,⟨0,none,pb false o⟩)]⟩
theorem qd0(l:List ak)(v:List Int)(o:List ak)(i:Int)(ae:PX×S->Prop):(bif nv i l then ob (iC i l) (ob (dM l i) (ob (iC i l) (ob (dM l i) (∃(au:List Int) (r:Int),[Zx v,P.d (pz l i)]=Zx au::Zn r/\Zo/\ZK au/\bif decide (F9 l i<=eK au r) then ob (iC i l) (ob (dM l i) (ob (Z6G o l i) (ob (Zw i) (ae (PX.normal,S.mk 35 (de l::Zz v::(5,P.sl 0 0 (NL o l i))::ZL i) [(0,Z6H o l i)]))))) else ob (Zw i) (ae (PX.normal,S.mk 35 (de l::Zz v::(5,lZ o)::ZL i) (F8 o))))))) else ae (PX.exit 0,S.mk 35 [(5,lZ o)] (F8 o)))=(aD [(13,Yj)] [] 48 3 (knH l v o i)) ae:=by kernel_rfl
def gKn:S->K (PX×S):=λs ae=> ∃l v,s=knH l v [] 0/\(l.length<=1000000/\v.length<=1000000)/\ ∀o,o=aO l v->ae (.exit 0,⟨35,[(5,.sl 0 0 o.length)],[(0,⟨0,none,pb false o⟩)]⟩)
theorem ql5(l:List ak)(v:List Int)(ae:P×List (Nat×En)->Prop):(∃(au:List ak) (cT:List Int),S.mk 35 (de l::Zz v::Vy) Z72=S.mk 35 (de au::Zz cT::Vy) Z72/\(iR au/\JH cT)/\ ∀(o:List ak),o=aO au cT->ae (lZ o,F8 o))=(aJ [] [(3,ah (aK 48 3) gKn)] 48 [bp l,vD v] []) ae:=by kernel_rfl
def hKn:bg:=λps R ae=> ∃l v,ps=[bp l,vD v]/\R=[]/\(l.length<=1000000/\v.length<=1000000)/\ ∀o,o=aO l v->ae (.sl 0 0 o.length,[(0,⟨0,none,pb false o⟩)])
abbrev Xq(l:List ak)(t i:Int):S:=⟨20,[(0,bp l),(3,iD t),(4,iD i)],[]⟩
theorem qd1(l:List ak)(t i:Int)(ae:PX×S->Prop):(bif nv i l then ob (iC i l) (ob (dM l i) (ob (Zw i) (ae (PX.normal,S.mk 20 (de l::(3,P.d (D.int .i64 (max t (D.aj (D.ar (gT l i) 0)))))::tq i) [])))) else ae (PX.exit 0,S.mk 20 (ZH t) []))=(aD [] [] 49 3 (Xq l t i)) ae:=by kernel_rfl
def Xr:S->K (PX×S):=λs ae=> ∃l,s=Xq l 0 0/\l.length<=1000000/\ ∀t,t=fj l->ae (.exit 0,⟨20,[(3,iD t)],[]⟩)
def Ze1(au:List ak):S:=S.mk 20 (de au::(3,P.d Z7)::K6) []
theorem ql6(l:List ak)(ae:P×List (Nat×En)->Prop):(∃(au:List ak),Ze1 l=Ze1 au/\iR au/\ ∀(t:Int),t=fj au->ae (Zm t,[]))=(aJ [] [(3,ah (aK 49 3) Xr)] 49 [bp l] []) ae:=by kernel_rfl
def Xs:bg:=λps R ae=> ∃l,ps=[bp l]/\R=[]/\l.length<=1000000/\ ∀t,t=fj l->ae (iD t,[])
abbrev ndH(l:List ak)(b:Bool)(o:List av)(i:Int):S:=⟨60,[(0,bp l),(1,.d (.bool b)),(5,.sl 0 0 o.length),(6,iD i)],[(0,⟨0,none,fS false o⟩)]⟩
abbrev ndI(l:List ak)(b:Bool)(o:List av)(i k:Int):S:=⟨60,[(0,bp l),(1,.d (.bool b)),(5,.sl 0 0 o.length),(6,iD i),(7,iD k)],[(0,⟨0,none,fS false o⟩)]⟩
def Rm(b:Bool):Nat×P:=(1,dV b)
def Ze4(k:Int)(ae:PX×S->Prop)(l:List ak)(b:Bool)(o:List av)(i:Int):Prop:=ob (Zw k) (ae (PX.normal,S.mk 60 (de l::Rm b::(5,pC o)::ZS i::ZT k) (r7 o)))
def Ze2(l:List ak)(i:Int)(k:Int):List D:=[D.agg [Zbr l i k,Zbs l i k,Zbt l i k]]
theorem qd2(l:List ak)(b:Bool)(o:List av)(i k:Int)(ae:PX×S->Prop):(ob (iC i l) (ob (dM l i) (bif LL k l i then ob (iC i l) (ob (dM l i) (ob (Ft k l i) (ob (Fs l i k) (bif Fq l i k==(0:Int) then ob (iC i l) (ob (dM l i) (ob (Ft k l i) (ob (Fs l i k) (bif D.eG (D.ar (jV l i k) 8)==b then ob (iC i l) (ob (dM l i) (ob (Ft k l i) (ob (Fs l i k) (ob (Nat.ble (fF o) (oi o)&&aI (fF o+List.length (Ze2 l i k)) 24) (ob (Zw k) (ae (PX.normal,S.mk 60 (de l::Rm b::(5,P.sl 0 0 (fF o+List.length (Ze2 l i k)))::ZS i::ZT k) [(0,En.mk 0 none (Obj.arr (50:TypeId) false (Qs o++Ze2 l i k)))]))))))) else Ze4 k ae l b o i)))) else Ze4 k ae l b o i)))) else ae (PX.exit 2,S.mk 60 (de l::Rm b::(5,pC o)::Bg i) (r7 o)))))=(aD [] [] 76 6 (ndI l b o i k)) ae:=by kernel_rfl
def qhn:S->K (PX×S):=λs ae=> ∃(l:List ak) (b:Bool) (o:List av) (i:Int) (g:ak),AtG l i g/\s=ndI l b o i 0/\(0<=i/\i<l.length/\o.length+g.ops.length<=1000000)/\ ∀o',o'=o++sY b g.ops->ae (.exit 2,ndH l b o' i)
theorem qd3(l:List ak)(b:Bool)(o:List av)(i:Int)(ae:PX×S->Prop):(bif nv i l then∃(au:List ak) (K7:Bool) (aU:List av) (bb:Int) (g:ak),AtG au bb g/\S.mk 60 (de l::Rm b::(5,pC o)::ZS i::pU) (r7 o)=S.mk 60 (de au::Rm K7::(5,pC aU)::ZS bb::pU) (r7 aU)/\((0:Int)<=bb/\bb<l4 au/\fF aU+List.length (ak.ops g)<=1000000)/\ ∀(o':List av),o'=aU++sY K7 (ak.ops g)->ob (Zw bb) (ae (PX.normal,S.mk 60 (de au::Rm K7::(5,pC o')::ZL bb) (r7 o'))) else ae (PX.exit 0,S.mk 60 [(5,pC o)] (r7 o)))=(aD [] [(6,ah (aK 76 6) qhn)] 76 3 (ndH l b o i)) ae:=by kernel_rfl
def gNd:S->K (PX×S):=λs ae=> ∃l b,s=ndH l b [] 0/\(l.length<=1000000/\cG l<=1000)/\ ∀o,o=uQ b l->ae (.exit 0,⟨60,[(5,.sl 0 0 o.length)],[(0,⟨0,none,fS false o⟩)]⟩)
def Ze5(au:List ak)(K7:Bool):S:=S.mk 60 (de au::Rm K7::Vy) [(0,JK)]
theorem ql7(l:List ak)(b:Bool)(ae:P×List (Nat×En)->Prop):(∃(au:List ak) (K7:Bool),Ze5 l b=Ze5 au K7/\WQ au/\ ∀(o:List av),o=uQ K7 au->ae (pC o,r7 o))=(aJ [] [(3,ah (aK 76 3) gNd)] 76 [bp l,.d (.bool b)] []) ae:=by kernel_rfl
def qho:bg:=λps R ae=> ∃l b,ps=[bp l,.d (.bool b)]/\R=[]/\(l.length<=1000000/\cG l<=1000)/\ ∀o,o=uQ b l->ae (.sl 0 0 o.length,[(0,⟨0,none,fS false o⟩)])
theorem ql8(a b:List av)(ae:P×List (Nat×En)->Prop):(ob (Nat.ble 0 0&&aI (0+oi a) 24) (ob (Nat.ble (0+oi a) (List.length ([]++fg a))&&aI (0+oi a+oi b) 24) (ae (P.sl 0 0 (0+oi a+oi b),[(0,En.mk 0 none (Obj.arr (50:TypeId) false (List.take (0+oi a) ([]++fg a)++fg b)))]))))=(aJ [] [] 78 [cI a,cI b] []) ae:=by kernel_rfl
def hJn:bg:=λps R ae=> ∃a b,ps=[cI a,cI b]/\R=[]/\(a.length<=1000000/\b.length<=1000000)/\ ∀o,o=a++b->ae (.sl 0 0 o.length,[(0,⟨0,none,fS false o⟩)])
theorem Jf{l:List ak}{v:List Int}{i:Nat}(h:i<l.length):aO (l.take (i+1)) v=if l[i].n<=eK v l[i].s.2 then aO (l.take i) v++[l[i]] else aO (l.take i) v:=by
 unfold aO;rw[zae h,zbw];by_cases hc:l[i].n<=eK v l[i].s.2
 ·rw[zap hc,zbU (by simpa using hc)];rfl
 rw[zan hc,zbV (by simpa using hc),zcs,zaV]
theorem L1(l:List ak)(v:List Int):(aO l v).length<=l.length:=zaG _ _
section
variable{X:XF}
theorem qhp:LD X 48 3 (ah (aK 48 3) gKn):=LD.idx (H:=[(13,Yj)]) (hk:=[]) (by kernel_rfl) (by kernel_rfl) (.cons HS .nil) .nil
 (A:=List ak×List Int) (B:=List ak) (λa o i=>knH a.1 a.2 o i) (λa=>a.1.length) (λa i o=>(a.1.length<=1000000/\a.2.length<=1000000)/\o=aO (a.1.take i) a.2)
 (λa x=>x=(.exit 0,⟨35,[(5,.sl 0 0 (aO a.1 a.2).length)],[(0,⟨0,none,pb false (aO a.1 a.2)⟩)]⟩))
 (by
  rintro⟨l,v⟩ o i ae h0 bK aQ ⟨hl,ff⟩ hn ho
  try dsimp only at*
  (rw[<-qd0];delta cg tv Rc F8 dn lZ Zt gT F9 la pz pA B2 Z6H ZA ZL NL Zx Zz ct de Za Z9 Zw gi Z6G ZJ ZK Zo Zk Zm Zn dM iC nv)
  have e1:D.nth (l.map aR) i.toNat=aR l[i.toNat]:=ax _ _ _ aQ;have k9:o.length<=l.length:=by rw[ff];exact zaE (L1 _ _) (by rw[zas];exact Nat.min_le_right _ _)
  have hk:=Jf (v:=v) aQ;rw[<-ff] at hk;have dt:i<((l.map aR).length:Int):=by rw[zaa];exact bK
  have PF:i.toNat<(l.map aR).length:=by rw[zaa];exact aQ
  rw[e1];generalize l[i.toNat]=g at*
  have pn:=fh g;have t2:D.agg [D.int .i64 (D.aj (D.ar (aR g) 0)),D.int .i64 (D.aj (D.ar (aR g) 1)),D.int .i64 g.n,D.sl 1 (D.dS (D.ar (aR g) 3)),D.int .i64 (D.aj (D.ar (aR g) 4)),D.int .i64 (D.aj (D.ar (aR g) 5)),D.sl 18 (D.dS (D.ar (aR g) 6))]=aR g:=rfl;have u2:D.aj (D.ar (aR g) 2)=g.n:=rfl;refine ie (zaY dt) (ao ⟨h0,dt⟩ (aq pn (ao ⟨h0,dt⟩ (aq pn ⟨v,g.s.2,rfl,rfl,by omega,?_⟩))));rw[u2];refine cr (λhc=>ao ⟨h0,dt⟩ (aq pn (aq ?_ (ao (by omega) ?_)))) λhc=>ao (by omega) ?_
  ·rw[zab];exact⟨by simp,cd (by omega) (by omega)⟩
  ·have:=hn (o++[g]) ⟨hl,by rw[hk,zap hc]⟩;rw[t2,bO];simp only[knH,zah,zao,zat,zaF] at this;exact this
  exact hn o ⟨hl,by rw[hk,zan hc]⟩)
 (by
  rintro⟨l,v⟩ o i ae hi ⟨hl,ff⟩ ho
  try dsimp only at*
  (rw[<-qd0];delta cg tv Rc F8 dn lZ Zt gT F9 la pz pA B2 Z6H ZA ZL NL Zx Zz ct de Za Z9 Zw gi Z6G ZJ ZK Zo Zk Zm Zn dM iC nv)
  have dt: ¬i<((l.map aR).length:Int):=by rw[zaa];omega
  rw[zaj] at ff;refine iK (zaO dt) (ho _ (λh=>by cases h) ?_);rw[ff])
 (by rintro s ae ⟨l,v,rfl,hl,hp⟩;refine⟨(l,v),[],rfl,⟨hl,rfl⟩,?_⟩;rintro x rfl;exact hp _ rfl)
theorem ql9:FD X 48 hKn:=FD.mk (H:=[]) (hk:=[(3,ah (aK 48 3) gKn)]) (by kernel_rfl) .nil (.cons qhp .nil) (by
 intro ps R ae hh;obtain⟨l,v,rfl,rfl,hl,hp⟩:=hh
 (rw[<-ql5];delta cg tv Rc F8 dn lZ JH iR Rf Z72 Z7 JE ZY Vy Zx Zz ct de)
 exact⟨l,v,rfl,hl,λo ho=>hp o ho⟩)
theorem Xt:LD X 49 3 (ah (aK 49 3) Xr):=LD.idx (H:=[]) (hk:=[]) (by kernel_rfl) (by kernel_rfl) .nil .nil
 (A:=List ak) (B:=Int) (λl t i=>Xq l t i) (λl=>l.length) (λl i t=>l.length<=1000000/\t=fj (l.take i))
 (λl x=>x=(.exit 0,⟨20,[(3,iD (fj l))],[]⟩))
 (by
  rintro l t i ae h0 bK aQ ⟨hl,rfl⟩ hn ho
  try dsimp only at*
  (rw[<-qd1];delta Zk Zm ZH ZA tq Zt cg gT ct de Za Z9 Zw dM gi iC nv)
  have e1:D.nth (l.map aR) i.toNat=aR l[i.toNat]:=ax _ _ _ aQ;have hk:=IX aQ;have dt:i<((l.map aR).length:Int):=by rw[zaa];exact bK
  rw[e1];have pn:=fh l[i.toNat];refine ie (zaY dt) (ao ⟨h0,dt⟩ (aq pn (ao (by omega) ?_)));have:=hn _ ⟨hl,rfl⟩;rw[hk] at this;exact this)
 (by
  rintro l t i ae hi ⟨hl,ht⟩ ho
  try dsimp only at*
  (rw[<-qd1];delta Zk Zm ZH ZA tq Zt cg gT ct de Za Z9 Zw dM gi iC nv)
  have dt: ¬i<((l.map aR).length:Int):=by rw[zaa];omega
  rw[zaj] at ht;refine iK (zaO dt) (ho _ (λh=>by cases h) ?_);rw[ht])
 (by rintro s ae ⟨l,rfl,hl,hp⟩;refine⟨l,0,rfl,⟨hl,rfl⟩,?_⟩;rintro x rfl;exact hp _ rfl)
theorem qhq:FD X 49 Xs:=FD.mk (H:=[]) (hk:=[(3,ah (aK 49 3) Xr)]) (by kernel_rfl) .nil (.cons Xt .nil) (by
 intro ps R ae hh;obtain⟨l,rfl,rfl,hl,hp⟩:=hh
 (rw[<-ql6];delta Zk Zm dn iR Z7 K6 cg ct de Ze1)
 exact⟨l,rfl,hl,λt ht=>hp t ht⟩)
theorem qma:FD X 78 hJn:=FD.mk (H:=[]) (hk:=[]) (by kernel_rfl) .nil .nil (by
 intro ps R ae hh;obtain⟨a,b,rfl,rfl,⟨ha,hb⟩,hp⟩:=hh
 (rw[<-ql8];delta fg oi)
 have:=hp (a++b) rfl;have tk:List.take a.length (a.map bV)=a.map bV:=zal (by simp);simp only[zbk,zaF,zaa];rw[tk];refine aq ?_ (aq ?_ ?_)
 ·rw[zab];exact⟨by simp,bN (by omega) (by omega)⟩
 ·rw[zab];exact⟨by simp,bN (by omega) (by omega)⟩
 rw[<-zau];rw[zah] at this;exact this)
theorem QC{b:Bool}{l:List bc}{k:Nat}(h:k<l.length):sY b (l.take (k+1))=if l[k].kind=0/\l[k].dir=b then sY b (l.take k)++[l[k].node] else sY b (l.take k):=by
 unfold sY;rw[zae h,zbw];split
 next hc=>rw[zbU (by simp[hc.1,hc.2])];simp
 rename_i hc;rw[zbV (by rw[zab,zaW,zaW];exact hc)];simp
theorem QD{b:Bool}{l:List ak}{i:Nat}(h:i<l.length):uQ b (l.take (i+1))=uQ b (l.take i)++sY b l[i].ops:=by unfold uQ;rw[zae h,za9];simp
theorem qcK:LD X 76 6 (ah (aK 76 6) qhn):=LD.idx (H:=[]) (hk:=[]) (by kernel_rfl) (by kernel_rfl) .nil .nil
 (A:=List ak×Bool×List av×Int×ak) (B:=List av) (λa o k=>ndI a.1 a.2.1 o a.2.2.2.1 k) (λa=>a.2.2.2.2.ops.length)
 (λa k o=>((0<=a.2.2.2.1/\a.2.2.2.1<a.1.length)/\D.nth (a.1.map aR) a.2.2.2.1.toNat=aR a.2.2.2.2/\a.2.2.1.length+a.2.2.2.2.ops.length<=1000000)/\o=a.2.2.1++sY a.2.1 (a.2.2.2.2.ops.take k))
 (λa z=>z=(.exit 2,ndH a.1 a.2.1 (a.2.2.1++sY a.2.1 a.2.2.2.2.ops) a.2.2.2.1))
 (by
  rintro⟨l,b,o0,i,g⟩ o k ae h0 tU du ⟨⟨hb,hg,hl⟩,ho⟩ hn aT
  try dsimp only at*
  (rw[<-qd2];delta fg Bf r7 Zk Zm ZS Bg fF pC ZA ZT dV Rm cg ct de Za Z9 Zw Ze4 Qs Zt gT jV Zbt Zbs Zbr Ze2 oi Fq Fs Ri Ft LL dM gi iC)
  have dt:0<=i/\i<((l.map aR).length:Int):=by rw[zaa];exact hb
  have u6:D.dS (D.ar (aR g) 6)=g.ops.map dC:=rfl;have e1:D.nth (g.ops.map dC) k.toNat=dC g.ops[k.toNat]:=ax _ _ _ du;have jS:=QC (b:=b) du;have k9:o.length<1000000:=by have:=Je b (g.ops.take k.toNat);rw[zas] at this;rw[ho,zah];omega
  rw[hg,u6,e1];have Gm:0<=k/\k<((g.ops.map dC).length:Int):=by rw[zaa];exact⟨h0,tU⟩
  generalize g.ops[k.toNat]=y at*
  have pn:=fh g;have sk:=IE y;have c0:D.aj (D.ar (dC y) 0)=y.kind:=rfl;have c1:D.eG (D.ar (dC y) 8)=y.dir:=rfl;have t2:D.agg [D.int .i64 (D.aj (D.ar (dC y) 1)),D.int .i64 (D.aj (D.ar (dC y) 2)),D.int .i64 (D.aj (D.ar (dC y) 3))]=bV y.node:=rfl;rw[c0,c1,t2,bO];have bS: ¬(y.kind=0/\y.dir=b)->o0++sY b (g.ops.take (k.toNat+1))=o:=λh=>by rw[jS,ho,zan h]
  have cv:y.kind=0->y.dir=b->o0++sY b (g.ops.take (k.toNat+1))=o++[y.node]:=λh1 h2=>by rw[jS,ho,zap ⟨h1,h2⟩,zaM]
  refine ao dt (aq pn (bn Gm.2 (ao dt (aq pn (ao Gm (aq sk (A9 (λhk=>ao dt (aq pn (ao Gm (aq sk (aA (λhx=>ao dt (aq pn (ao Gm (aq sk ?_)))) λhx=>ao (by omega) (hn o ⟨⟨hb,hg,hl⟩,(bS (λhh=>by rw[hh.2] at hx;simp at hx)).symm⟩)))))) λhk=>ao (by omega) (hn o ⟨⟨hb,hg,hl⟩,(bS (λhh=>hk hh.1)).symm⟩))))))));have hy:=hn (o++[y.node]) ⟨⟨hb,hg,hl⟩,(cv hk (by simpa using hx)).symm⟩;simp only[ndI,zah] at hy;refine aq (c8 rfl (by rw[zaa]) (by omega) (by decide)) (ao (by omega) ?_);exact hy)
 (by
  rintro⟨l,b,o0,i,g⟩ o k ae hk ⟨⟨hb,hg,hl⟩,ho⟩ aT
  try dsimp only at*
  (rw[<-qd2];delta fg Bf r7 Zk Zm ZS Bg fF pC ZA ZT dV Rm cg ct de Za Z9 Zw Ze4 Qs Zt gT jV Zbt Zbs Zbr Ze2 oi Fq Fs Ri Ft LL dM gi iC)
  have dt:0<=i/\i<((l.map aR).length:Int):=by rw[zaa];exact hb
  have u6:D.dS (D.ar (aR g) 6)=g.ops.map dC:=rfl;rw[hg,u6];refine ao dt (aq (fh g) (jU (by rw[zaa];omega) (aT _ (λh=>by cases h) ?_)));rw[ho,zaj])
 (by rintro s ae ⟨l,b,o,i,g,hg,rfl,⟨h1,h2,h3⟩,hp⟩;refine⟨(l,b,o,i,g),o,rfl,⟨⟨⟨h1,h2⟩,hg,h3⟩,by simp[sY]⟩,?_⟩;rintro z rfl;exact hp _ rfl)
theorem qhr:LD X 76 3 (ah (aK 76 3) gNd):=LD.idx (H:=[]) (hk:=[(6,ah (aK 76 6) qhn)]) (by kernel_rfl) (by kernel_rfl) .nil (.cons qcK .nil)
 (A:=List ak×Bool) (B:=List av) (λa o i=>ndH a.1 a.2 o i) (λa=>a.1.length)
 (λa i o=>(a.1.length<=1000000/\cG a.1<=1000)/\o=uQ a.2 (a.1.take i))
 (λa z=>z=(.exit 0,⟨60,[(5,.sl 0 0 (uQ a.2 a.1).length)],[(0,⟨0,none,fS false (uQ a.2 a.1)⟩)]⟩))
 (by
  rintro⟨l,b⟩ o i ae h0 bK aQ ⟨hc,ho⟩ hn aT
  try dsimp only at*
  (rw[<-qd3];delta ZA ZL Za Z9 Zw fF dn l4 fg Bf r7 Z7 pU Zk Zm ZS pC dV Rm cg ct de gi nv)
  have jS:=QD (b:=b) aQ;have h2:=nS l (i.toNat+1);have h3:=oZ aQ;have h4:=n5 b (l.take i.toNat);rw[<-ho] at h4;refine bn (by rw[zaa];exact bK) ⟨l,b,o,i,l[i.toNat],ax _ _ _ aQ,rfl,⟨h0,bK,by omega⟩,λo' ff=>ao (by omega) (hn o' ⟨hc,?_⟩)⟩;rw[ff,ho,jS])
 (by
  rintro⟨l,b⟩ o i ae hi ⟨hc,ho⟩ aT
  try dsimp only at*
  (rw[<-qd3];delta ZA ZL Za Z9 Zw fF dn l4 fg Bf r7 Z7 pU Zk Zm ZS pC dV Rm cg ct de gi nv)
  refine jU (by rw[zaa];omega) (aT _ (λh=>by cases h) ?_);rw[ho,zaj])
 (by rintro s ae ⟨l,b,rfl,hc,hp⟩;refine⟨(l,b),[],rfl,⟨hc,rfl⟩,?_⟩;rintro z rfl;exact hp _ rfl)
theorem qke:FD X 76 qho:=FD.mk (H:=[]) (hk:=[(3,ah (aK 76 3) gNd)]) (by kernel_rfl) .nil (.cons qhr .nil) (by
 intro ps R ae hh;obtain⟨l,b,rfl,rfl,hs,hp⟩:=hh
 (rw[<-ql7];delta fg Bf r7 fF pC dn iR WQ JK Z7 JE ZY Vy dV Rm cg ct de Ze5)
 exact⟨l,b,rfl,hs,λo ho=>hp o ho⟩)
end
structure cj where
 what:Int
 r:Int
 a:Int
 b:Int
 c:Int
 see:Bool
abbrev uE(n:Int):D:= .int .u8 n
def oa(x:cj):D:= .agg [uE x.what,uE x.r,uE x.a,uE x.b,uE x.c,.bool x.see]
structure FG(x:cj):Prop where
 what:0<=x.what/\x.what<=255
 r:0<=x.r/\x.r<=255
 a:0<=x.a/\x.a<=255
 b:0<=x.b/\x.b<=255
 c:0<=x.c/\x.c<=255
def wD(l:List ak)(K:List (List Int)):D:= .agg [.sl 7 (l.map aR),.sl 1 (K.map λv=> .sl 1 (aY v))]
def Xu:bg:=λps R ae=> ∃(l:List av) (n:Int),ps=[cI l,.d (uE n)]/\R=[]/\(l.length<=1000000/\0<=n/\n<=255)/\ ∀y,(y=aB\/y∈l)->ae (.d (bV y),[])
def Zej(x:cj)(o:List av):Int:=Int.tmod (cj.b x) (vb o)+(1:Int)+Int.tmod (cj.c x) (3:Int)
def Zee(x:cj):Bool:=decide (Z9<=cj.c x/\cj.c x<=Za)
def Zei(ae:P×List (Nat×En)->Prop):Prop:=ae (P.cH (P.d (D.agg (Z7::Z7::Z7::Z7::Z7::Z7::Z7::vJ::Z4N))::F4),[])
def Zek(l:List ak)(y:av)(ae:P×List (Nat×En)->Prop)(x:cj):Prop:= ∃(Cc:List ak) (aX:av),ct l::e8 y=ct Cc::e8 aX/\Zo/\(iR Cc/\cG Cc<=1000/\e9 (cP Cc aX))/\ ∀(o:List av),o=Jd Cc aX->bif Z4y y then Zei ae else bif vb o==(0:Int) then Zei ae else ob (decide (Z9<=cj.b x/\cj.b x<=Za)) (ob (!decide (vb o=(0:Int))) (ob (decide (Z9<=Int.tmod (cj.b x) (vb o)+(1:Int)/\Int.tmod (cj.b x) (vb o)+(1:Int)<=Za)) (ob (Zee x) (ob (decide (Z9<=Zej x o/\Zej x o<=Za)) (ob (decide ((0:Int)<=min (vb o) (Zej x o)/\min (vb o) (Zej x o)<=vb o)) (ob (decide ((0:Int)<=Int.tmod (cj.b x) (vb o)/\Int.tmod (cj.b x) (vb o)<=(↑(Int.toNat (min (vb o) (Zej x o))):Int))) (ae (P.cH (P.d (D.agg [D.int .i64 (4:Int),eO y,eN y,eY y,Z7,Z7,Z7,vJ,Z3,Q5,Z7,Z7,Z7,Z7,Z7,Z7,vJ,D.sl 3 (List.take (Int.toNat (min (vb o) (Zej x o))-Int.toNat (Int.tmod (cj.b x) (vb o))) (List.drop (Int.toNat (Int.tmod (cj.b x) (vb o))) (fg o)))])::FY),[]))))))))
def Zed(y:av):List P:=[P.d (D.bool !Z4y y)]
def Zef(x:cj):Int:=Int.tmod (cj.c x) (5:Int)+(1:Int)
def Zeg(x:cj):Int:=Zef x+Int.tmod (cj.c x) (2:Int)
def Ze9(y:av)(mI:List av):Prop:=y=aB\/y∈mI
def Ze8(mI:List av)(n:Int):Prop:=nu mI/\(0:Int)<=n/\n<=(255:Int)
def Zeh(x:cj)(l:List ak)(y:av)(ae:P×List (Nat×En)->Prop)(s:ay):Prop:=ob (Zee x) (∃(Cc:List ak) (aX:av),ct l::e8 y=ct Cc::e8 aX/\Zo/\(iR Cc/\cG Cc<=1000/\e9 (cP Cc aX))/\ ∀(o:List av),o=Jd Cc aX-> ∃(l:List av) (n:Int),[Qu o,P.d (D.int .u8 (cj.b x))]=[gJ l,P.d (D.int .u8 n)]/\Zo/\Ze8 l n/\ ∀(Ju:av),Ze9 Ju l->ob (decide (Z9<=Zef x/\Zef x<=Za)) (ob (Zee x) (ob (decide (Z9<=Zeg x/\Zeg x<=Za)) (ob (decide ((0:Int)<=Zeg x/\Zeg x<=(6:Int))) (ob (decide ((0:Int)<=Int.tmod (cj.c x) (5:Int)/\Int.tmod (cj.c x) (5:Int)<=(↑(Int.toNat (Zeg x)):Int))) (ae (P.cH (P.d (D.agg (D.int .i64 (3:Int)::eO y::eN y::eY y::Z7::Z7::Z7::vJ::Z3::Q5::eO Ju::eN Ju::eY Ju::iQ s::iP s::Z7::D.str (List.drop (Int.toNat (Int.tmod (cj.c x) (5:Int))) (List.take (Int.toNat (Zeg x)) [(117:UInt8),(118:UInt8),(119:UInt8),(120:UInt8),(121:UInt8),(122:UInt8)]))::Z4L))::Zed y),[])))))))
def Ze6(x:cj):Int:=IntKind.wrap IntKind.u8 (Int.tmod (cj.b x) (3:Int)+(1:Int))
def Zeb(x:cj):D:=D.str (List.drop (Int.toNat (Int.tmod (cj.b x) (3:Int))) (List.take (Int.toNat (Ze6 x)) [(97:UInt8),(98:UInt8),(99:UInt8)]))
def Xv(x:cj):Int:=Int.tmod (cj.what x) (8:Int)
def Zec(o:List av)(x:cj):List P:=[Qu o,P.d (D.int .u8 (cj.a x))]
theorem qmb(l:List ak)(s:ay)(x:cj)(ae:P×List (Nat×En)->Prop):(∃(au:List ak) (b:Bool),ct l::FY=[ct au,dV b]/\Zo/\WQ au/\ ∀(o:List av),o=uQ b au-> ∃(eD:List ak) (b:Bool),ct l::F4=[ct eD,dV b]/\Zo/\WQ eD/\ ∀(aU:List av),aU=uQ b eD->ob (decide ((0:Int)<=Ze6 x/\Ze6 x<=(3:Int))) (ob (decide ((0:Int)<=Int.tmod (cj.b x) (3:Int)/\Int.tmod (cj.b x) (3:Int)<=(↑(Int.toNat (Ze6 x)):Int))) (∃(mI:List av) (n:Int),Zec aU x=[gJ mI,P.d (D.int .u8 n)]/\Zo/\Ze8 mI n/\ ∀(y:av),Ze9 y mI->bif Xv x==(0:Int) then∃(l:List av) (n:Int),Zec o x=[gJ l,P.d (D.int .u8 n)]/\Zo/\Ze8 l n/\ ∀(y:av),Ze9 y l->ae (P.cH (P.d (D.agg (Z7::iQ s::iP s::Z7::eO y::eN y::eY y::Zeb x::D.bool true::Q5::Yr))::FY),[]) else bif Xv x==(1:Int) then∃(l:List av) (n:Int),Zec o x=[gJ l,P.d (D.int .u8 n)]/\Zo/\Ze8 l n/\ ∀(y:av),Ze9 y l->ae (P.cH (P.d (D.agg (Z7::iQ s::iP s::Z7::eO y::eN y::eY y::Zeb x::Z4N))::FY),[]) else bif Xv x==(2:Int) then∃(a:List av) (b:List av),[Qu aU,Qu o]=[gJ a,gJ b]/\Zo/\(nu a/\nu b)/\ ∀(Qt:List av),Qt=a++b-> ∃(l:List av) (n:Int),[Qu Qt,P.d (D.int .u8 (cj.c x))]=[gJ l,P.d (D.int .u8 n)]/\Zo/\Ze8 l n/\ ∀(y:av),Ze9 y l-> ∃(l:List av) (n:Int),Zec o x=[gJ l,P.d (D.int .u8 n)]/\Zo/\Ze8 l n/\ ∀(Ju:av),Ze9 Ju l->ae (P.cH (P.d (D.agg (Zg::eO y::eN y::eY y::eO Ju::eN Ju::eY Ju::Zeb x::Z4N))::Zed y),[]) else bif Xv x==(3:Int) then∃(a:List av) (b:List av),[Qu aU,Qu o]=[gJ a,gJ b]/\Zo/\(nu a/\nu b)/\ ∀(o:List av),o=a++b-> ∃(Cc:List av) (n:Int),[Qu o,P.d (D.int .u8 (cj.c x))]=[gJ Cc,P.d (D.int .u8 n)]/\Zo/\Ze8 Cc n/\ ∀(y:av),Ze9 y Cc-> ∃(l_5:List ak),jl l=jl l_5/\Zo/\SmS l_5/\ ∀(o:List ay) (t:Tl) (p:List Pl) (x:List It),o=fP l_5->t=jQ o (aw l_5)->p=sW (aw l_5) t->x=AI (aw l_5) t-> ∃(h:List aZ) (g:List aZ) (x:av),P.d (D.sl 5 (List.map iH (Tl.h t)))::P.d (D.sl 5 (List.map iH (Tl.g t)))::e8 y=vY h::vY g::e8 x/\Zo/\(Dm h/\Dm g)/\ ∀(o:List ay),o=tX h g x->ae (P.cH (P.d (D.agg (Z3N::eO y::eN y::eY y::Z7::Z7::Z7::vJ::Z3::N6 o::Yr))::Zed y),[]) else bif Xv x==(4:Int) then bif Xv x==(4:Int) then Zeh x l y ae s else Zek l y ae x else bif Xv x==(5:Int) then Zeh x l y ae s else Zek l y ae x)))=(aJ [(76,qho),(77,Xu),(78,hJn),(32,I8),(79,qg9),(80,qhe)] [] 50 [bp l,.d (bh s),.d (oa x)] []) ae:=by kernel_rfl
def Zem(l:List av)(n:Int)(c:Int):D:=D.nth (fg l) (Int.toNat (Int.tmod n (c+(1:Int))))
def Zel(n:Int):Bool:=decide (Z9<=n/\n<=Za)
theorem qhs(l:List av)(n:Int)(ae:P×List (Nat×En)->Prop):(ob (Zel n) (∀(c:Int),c=wW l->ob (Zw c) (ob (!decide (c+(1:Int)=(0:Int))) (bif Int.tmod n (c+(1:Int))==wW l then ae (ZdX,[]) else ob (decide ((0:Int)<=Int.tmod n (c+(1:Int))/\Int.tmod n (c+(1:Int))<wW l)) (ob (cw PR (50:TypeId) (Zem l n c)) (ae (P.d (D.agg [D.int .i64 (D.aj (D.ar (Zem l n c) 0)),D.int .i64 (D.aj (D.ar (Zem l n c) 1)),D.int .i64 (D.aj (D.ar (Zem l n c) 2))]),[])))))))=(aJ [] [] 77 [cI l,.d (uE n)] []) ae:=by kernel_rfl
def qht:bg:=λps R ae=> ∃(i:Int) (l:List ak) (v:List Int) (r:Int) (x:cj),ps=[bp (aO l v),.d (bh (fc l v r)),.d (oa x)]/\R=[]/\(bH i l/\(0<=i/\i<=100)/\FG x)/\ ∀o (b:Bool),(b=true->OpW l v r o)->ae (.cH [.d (dC o),.d (.bool b)],[])
abbrev arV(z:Bool)(l:List (List Int)):Obj:= .arr 31 z (l.map λv=> .sl 1 (aY v))
abbrev bxW(l:List ak)(K:List (List Int)):Obj:= .box 62 [bp l,.d (.sl 1 (K.map λv=> .sl 1 (aY v)))]
abbrev qhu(x:cj):Obj:= .box 41 [.d (uE x.what),.d (uE x.r),.d (uE x.a),.d (uE x.b),.d (uE x.c),.d (.bool x.see)]
abbrev dn5(l:List ak)(K:List (List Int))(x:cj)(r:Int)(v:List Int)(i:Int):S:=⟨120,[(2,.ref 0 0 0),(3,.ref 1 0 0),(4,.ref 2 0 0),(5,iD r),(6,vD v),(7,iD i)],[(0,⟨0,none,bxW l K⟩),(1,⟨0,none,qhu x⟩),(2,⟨0,none,.box 62 [.sl 3 0 0,.sl 4 0 0]⟩),(3,⟨0,none,pb false []⟩),(4,⟨0,none,arV false []⟩)]⟩
def Gn(K:List (List Int)):List D:=List.map (λ(v:List Int)=>D.sl 1 (aY v)) K
def Rn(l:List ak)(K:List (List Int)):Nat×En:=(0,En.mk 0 none (Obj.box (62:TypeId) [ct l,P.d (D.sl 1 (Gn K))]))
def Zep(l:List ak)(K:List (List Int))(x:cj):List (Nat×En):=[Rn l K,(1,En.mk 0 none (Obj.box (41:TypeId) [P.d (D.int .u8 (cj.what x)),P.d (D.int .u8 (cj.r x)),P.d (D.int .u8 (cj.a x)),P.d (D.int .u8 (cj.b x)),P.d (D.int .u8 (cj.c x)),P.d (D.bool (cj.see x))])),(2,En.mk 0 none (Obj.box (62:TypeId) [P.sl 3 0 0,P.sl 4 0 0])),(3,Rf),(4,En.mk 0 none (Obj.arr (31:TypeId) false []))]
theorem qd4(l:List ak)(K:List (List Int))(x:cj)(r:Int)(v:List Int)(i:Int)(ae:PX×S->Prop):(bif decide (i<(↑(List.length (Gn K)):Int)) then ob (decide ((0:Int)<=i/\i<(↑(List.length (Gn K)):Int))) (ob (cw PR (31:TypeId) (D.nth (Gn K) (Zt i))) (∃(cT:List Int) (w:List Int),[Zx v,P.d (D.sl 1 (D.dS (D.nth (Gn K) (Zt i))))]=Zx cT::wT w/\Zo/\(jd cT/\jd w)/\ob (Zw i) (ae (PX.normal,S.mk 120 (JI::ti::(4,tj)::B6 r::(6,P.d (D.sl 1 (aY (mZ cT w))))::ZT i) (Zep l K x))))) else ae (PX.exit 0,S.mk 120 [JI,ti,(4,tj),B6 r,(6,Zx v)] (Zep l K x)))=(aD [(47,KN)] [] 29 5 (dn5 l K x r v i)) ae:=by kernel_rfl
def mgA(v:List Int)(K:List (List Int)):List Int:=K.foldl mZ v
def L2(v:List Int)(K:List (List Int)):Prop:=K.length<=1000/\cO v=true/\ ∀w∈K,cO w=true
def qhv:S->K (PX×S):=λs ae=> ∃l K x r v,s=dn5 l K x r v 0/\L2 v K/\ ∀w,w=mgA v K->ae (.exit 0,⟨120,[(2,.ref 0 0 0),(3,.ref 1 0 0),(4,.ref 2 0 0),(5,iD r),(6,vD w)],[(0,⟨0,none,bxW l K⟩),(1,⟨0,none,qhu x⟩),(2,⟨0,none,.box 62 [.sl 3 0 0,.sl 4 0 0]⟩),(3,⟨0,none,pb false []⟩),(4,⟨0,none,arV false []⟩)]⟩)
def Xw(x:cj):Int:=(1:Int)+Int.tmod (cj.r x) (3:Int)
def Zes(x:cj):Nat:=Int.toNat (Xw x-(1:Int))
def QE(r9:List (List Int)):List D:=[]++Gn r9
def Zey(r9:List (List Int)):Nat:=0+List.length (Gn r9)
def ZeP(K:List (List Int))(x:cj)(w:List Int):List D:=[D.sl 1 (List.take (Zey K) (List.set (QE K) (Zes x) (D.aP (D.sl 1 (D.dS (D.nth (QE K) (Zes x)))) [D.sl 1 (aY w)])))]
def ZeO(x:cj)(K:List (List Int)):Bool:=decide ((0:Int)<=Xw x-(1:Int)/\Xw x-(1:Int)<(↑(Zey K):Int))
def ZeL(o:bc):List D:=[Z7,Z7,D.sl 18 [E1 o]]
def Xx(x:cj):List P:=[P.d (D.agg [D.int .u8 (cj.what x),D.int .u8 (cj.r x),D.int .u8 (cj.a x),D.int .u8 (cj.b x),D.int .u8 (cj.c x),D.bool (cj.see x)])]
def ZeI(r9:List (List Int))(r:Int)(C0:List Int):List D:=[D.sl 1 (List.take (Zey r9) (List.set (QE r9) (Zc r) (D.aP (D.sl 1 (D.dS (D.nth (QE r9) (Zc r)))) [D.sl 1 (aY C0)])))]
def L3(au:List ak):Nat:=0+gi au
def ZeH(au:List ak):List D:=List.take (L3 au) ([]++cg au)
def Zex(o:List ak)(aX:cj):D:=D.nth (cg o) (Int.toNat (Int.tmod (cj.a aX) (l4 o)))
def ZeG(o:List ak)(aX:cj):List D:=[D.int .i64 (D.aj (D.ar (Zex o aX) 0)),D.int .i64 (D.aj (D.ar (Zex o aX) 1)),D.sl 18 []]
def ZeE(au:List ak):Bool:=Nat.ble (L3 au) (List.length ([]++cg au))
def ZeD(au:List ak):Bool:=Nat.ble 0 0&&aI (L3 au) 88
def ZeA(r:Int)(r9:List (List Int)):Bool:=decide ((0:Int)<=r-(1:Int)/\r-(1:Int)<(↑(Zey r9):Int))
def Zez(r9:List (List Int)):Bool:=Nat.ble 0 0&&aI (Zey r9) 24
def Jg(l:List Int)(bT:Int):D:=D.int .i64 (eK l bT+(1:Int))
def Zew(aX:cj)(o:List ak):Bool:=decide ((0:Int)<=Int.tmod (cj.a aX) (l4 o)/\Int.tmod (cj.a aX) (l4 o)<l4 o)
def Zev(aX:cj):Bool:=decide (Z9<=cj.a aX/\cj.a aX<=Za)
def Ro(au:List ak)(r9:List (List Int)):P:=P.d (D.agg [D.sl 7 (cg au),D.sl 1 (Gn r9)])
def Zet(l:List Int)(bT:Int):Bool:=decide (Z9<=eK l bT+(1:Int)/\eK l bT+(1:Int)<=Za)
def Rp(K:List (List Int))(x:cj):D:=D.sl 1 (D.dS (D.nth (Gn K) (Zes x)))
def Rq(x:cj):D:=D.int .i64 (Xw x)
def Zer(x:cj):Bool:=decide (Z9<=Xw x-(1:Int)/\Xw x-(1:Int)<=Za)
theorem qmc(l:List ak)(K:List (List Int))(x:cj)(ae:P×List (Nat×En)->Prop):(ob (decide (Z9<=cj.r x/\cj.r x<=Za)) (ob (decide (Z9<=Xw x/\Xw x<=Za)) (ob (Zer x) (ob (decide ((0:Int)<=Xw x-(1:Int)/\Xw x-(1:Int)<(↑(List.length (Gn K)):Int))) (ob (cw PR (31:TypeId) (D.nth (Gn K) (Zes x))) (bif cj.see x then∃(au:List ak) (r9:List (List Int)) (aX:cj) (r:Int) (v:List Int),S.mk 120 (JI::ti::(4,tj)::(5,P.d (Rq x))::(6,P.d (Rp K x))::pU) (Zep l K x)=S.mk 120 (JI::ti::(4,tj)::B6 r::(6,Zx v)::pU) (Zep au r9 aX)/\L2 v r9/\ ∀(w:List Int),w=mgA v r9-> ∃(l:List ak) (v:List Int),ct au::wT w=ct l::wT v/\Zo/\(iR l/\JH v)/\ ∀(o:List ak),o=aO l v-> ∃(l:List Int) (bT:Int),Zx w::Zn r=Zx l::Zn bT/\Zo/\ZK l/\ob (Zet l bT) (∃(eD:List ak),Zce o=jl eD/\Zo/\iR eD/\ ∀(t:Int),t=fj eD->ob (Zw t) (bif Xv aX==(7:Int) then bif l4 o==(0:Int) then ae (Ro au r9,[]) else ob (Zev aX) (ob (!decide (l4 o=(0:Int))) (ob (Zew aX o) (ob (decide (Int.toNat (Int.tmod (cj.a aX) (l4 o))<gi o)) (ob (cw PR (34:TypeId) (Zex o aX)) (∃(v:List Int) (xZ:Int) (n:Int),[Zx w,Zm r,P.d (Jg l bT)]=Zx v::Zm xZ::Zn n/\Zo/\Z9o v xZ/\ ∀(C0:List Int),C0=bk (gQ v xZ n)->ob (Zez r9) (ob (Zb r) (ob (ZeA r r9) (ob (decide (Zc r<List.length (QE r9))) (ob (cw PR (31:TypeId) (D.nth (QE r9) (Zc r))) (ob (ZeD au) (ob (ZeE au&&aI (L3 au+List.length [D.agg (ZA t::Zk r::Jg l bT::D.sl 1 (aY w)::ZeG o aX)]) 88) (ae (P.d (D.agg (D.sl 7 (List.take (L3 au+List.length [D.agg (ZA t::Zk r::Jg l bT::D.sl 1 (aY w)::ZeG o aX)]) (ZeH au++[D.agg (ZA t::Zk r::Jg l bT::D.sl 1 (aY w)::ZeG o aX)]))::ZeI r9 r C0)),[]))))))))))))) else∃(i:Int) (mI:List ak) (v:List Int) (xZ:Int) (x:cj),LS o::P.d (D.agg (ZA t::Zl r))::Xx aX=P.d (D.sl 7 (List.map aR (aO mI v)))::P.d (D.agg [D.int .i64 (Prod.fst (fc mI v xZ)),D.int .i64 (Prod.snd (fc mI v xZ))])::Xx x/\Zo/\(bH i mI/\((0:Int)<=i/\i<=(100:Int))/\FG x)/\ ∀(o:bc) (b:Bool),(b=true->OpW mI v xZ o)->bif lX b then ae (Ro au r9,[]) else∃(v:List Int) (r_3:Int) (n:Int),[Zx w,Zm r,P.d (Jg l bT)]=Zx v::Zm r_3::Zn n/\Zo/\Z9o v r_3/\ ∀(C0:List Int),C0=bk (gQ v r_3 n)->ob (Zez r9) (ob (Zb r) (ob (ZeA r r9) (ob (decide (Zc r<List.length (QE r9))) (ob (cw PR (31:TypeId) (D.nth (QE r9) (Zc r))) (ob (ZeD au) (ob (ZeE au&&aI (L3 au+List.length [D.agg (ZA t::Zk r::Jg l bT::D.sl 1 (aY w)::ZeL o)]) 88) (ae (P.d (D.agg (D.sl 7 (List.take (L3 au+List.length [D.agg (ZA t::Zk r::Jg l bT::D.sl 1 (aY w)::ZeL o)]) (ZeH au++[D.agg (ZA t::Zk r::Jg l bT::D.sl 1 (aY w)::ZeL o)]))::ZeI r9 r C0)),[])))))))))) else∃(au:List ak) (v:List Int),[ct l,P.d (Rp K x)]=ct au::wT v/\Zo/\(iR au/\JH v)/\ ∀(o:List ak),o=aO au v-> ∃(eD:List Int) (r:Int),[P.d (Rp K x),P.d (Rq x)]=Zx eD::Zn r/\Zo/\ZK eD/\ob (Zet eD r) (∃(mI:List ak),Zce o=jl mI/\Zo/\iR mI/\ ∀(t:Int),t=fj mI->ob (Zw t) (bif Xv x==(7:Int) then bif l4 o==(0:Int) then ae (Ro l K,[]) else ob (Zev x) (ob (!decide (l4 o=(0:Int))) (ob (Zew x o) (ob (decide (Int.toNat (Int.tmod (cj.a x) (l4 o))<gi o)) (ob (cw PR (34:TypeId) (Zex o x)) (∃(v:List Int) (bT:Int) (n:Int),[P.d (Rp K x),P.d (Rq x),P.d (Jg eD r)]=Zx v::Zm bT::Zn n/\Zo/\Z9o v bT/\ ∀(w:List Int),w=bk (gQ v bT n)->ob (Zez K) (ob (Zer x) (ob (ZeO x K) (ob (decide (Zes x<List.length (QE K))) (ob (cw PR (31:TypeId) (D.nth (QE K) (Zes x))) (ob (ZeD l) (ob (ZeE l&&aI (L3 l+List.length [D.agg (ZA t::Rq x::Jg eD r::Rp K x::ZeG o x)]) 88) (ae (P.d (D.agg (D.sl 7 (List.take (L3 l+List.length [D.agg (ZA t::Rq x::Jg eD r::Rp K x::ZeG o x)]) (ZeH l++[D.agg (ZA t::Rq x::Jg eD r::Rp K x::ZeG o x)]))::ZeP K x w)),[]))))))))))))) else∃(i:Int) (Cc:List ak) (v:List Int) (bT:Int) (aX:cj),LS o::P.d (D.agg [ZA t,Rq x])::Xx x=P.d (D.sl 7 (List.map aR (aO Cc v)))::P.d (D.agg [D.int .i64 (Prod.fst (fc Cc v bT)),D.int .i64 (Prod.snd (fc Cc v bT))])::Xx aX/\Zo/\(bH i Cc/\((0:Int)<=i/\i<=(100:Int))/\FG aX)/\ ∀(o:bc) (b:Bool),(b=true->OpW Cc v bT o)->bif lX b then ae (Ro l K,[]) else∃(v:List Int) (xZ:Int) (n:Int),[P.d (Rp K x),P.d (Rq x),P.d (Jg eD r)]=Zx v::Zm xZ::Zn n/\Zo/\Z9o v xZ/\ ∀(w:List Int),w=bk (gQ v xZ n)->ob (Zez K) (ob (Zer x) (ob (ZeO x K) (ob (decide (Zes x<List.length (QE K))) (ob (cw PR (31:TypeId) (D.nth (QE K) (Zes x))) (ob (ZeD l) (ob (ZeE l&&aI (L3 l+List.length [D.agg (ZA t::Rq x::Jg eD r::Rp K x::ZeL o)]) 88) (ae (P.d (D.agg (D.sl 7 (List.take (L3 l+List.length [D.agg (ZA t::Rq x::Jg eD r::Rp K x::ZeL o)]) (ZeH l++[D.agg (ZA t::Rq x::Jg eD r::Rp K x::ZeL o)]))::ZeP K x w)),[]))))))))))))))))=(aJ [(48,hKn),(13,Yj),(46,LH),(49,Xs),(50,qht)] [(5,ah (aK 29 5) qhv)] 29 [.d (wD l K),.d (oa x)] []) ae:=by kernel_rfl
def DA(i:Int)(l:List ak)(x:cj)(l':List ak)(K':List (List Int)):Prop:=bH (i+1) l'/\py (i+1) l' K'/\(x.what.tmod 8≠7->(∀g∈l,g.bs=(0,0))-> ∀g∈l',g.bs=(0,0))
def WOk(i:Int)(l:List ak)(K:List (List Int)):Prop:=bH i l/\py i l K/\0<=i/\i<=100
def Oa:bg:=λps R ae=> ∃(i:Int) (l:List ak) (K:List (List Int)) (x:cj),ps=[.d (wD l K),.d (oa x)]/\R=[]/\(WOk i l K/\FG x)/\ ∀l' K',DA i l x l' K'->ae (.d (wD l' K'),[])
abbrev hi3(m:List cj)(l:List ak)(K:List (List Int))(i:Int):S:=⟨25,[(0,.d (.sl 6 (m.map oa))),(3,.ref 0 0 0),(4,iD i)],[(0,⟨0,none,bxW l K⟩)]⟩
abbrev pT(m:List cj):S:=⟨25,[(0,.d (.sl 6 (m.map oa))),(3,.ref 0 0 0),(4,iD 0)],[(0,⟨0,none,.box 62 [.d .fk,.sl 1 0 3]⟩),(1,⟨0,none,arV false [[],[],[]]⟩)]⟩
def L4(m:List cj):Nat×P:=(0,P.d (D.sl 6 (List.map oa m)))
def Ob(m:List cj)(i:Int):D:=D.nth (List.map oa m) (Zt i)
def ZeU(m:List cj)(i:Int):D:=D.agg [D.int .u8 (D.aj (D.ar (Ob m i) 0)),D.int .u8 (D.aj (D.ar (Ob m i) 1)),D.int .u8 (D.aj (D.ar (Ob m i) 2)),D.int .u8 (D.aj (D.ar (Ob m i) 3)),D.int .u8 (D.aj (D.ar (Ob m i) 4)),D.bool (D.eG (D.ar (Ob m i) 5))]
def Xy(m:List cj):Int:=(↑(List.length (List.map oa m)):Int)
def ZeR(i:Int)(m:List cj):Bool:=decide ((0:Int)<=i/\i<Xy m)
theorem qd5(m:List cj)(l:List ak)(K:List (List Int))(i:Int)(ae:PX×S->Prop):(bif decide (i<Xy m) then bif decide (i<(16:Int)) then ob (ZeR i m) (ob (cw PR (41:TypeId) (Ob m i)) (∃(bb:Int) (au:List ak) (r9:List (List Int)) (x:cj),[Ro l K,P.d (ZeU m i)]=Ro au r9::Xx x/\Zo/\(WOk bb au r9/\FG x)/\ ∀(l':List ak) (K':List (List Int)),DA bb au x l' K'->ob (Zw i) (ae (PX.normal,S.mk 25 (L4 m::cE::tq i) [Rn l' K'])))) else ae (PX.exit 0,S.mk 25 JB [Rn l K]) else ae (PX.exit 0,S.mk 25 JB [Rn l K]))=(aD [(29,Oa)] [] 11 3 (hi3 m l K i)) ae:=by kernel_rfl
def ZeW:List (Nat×En):=[(0,En.mk 0 none (Obj.box (62:TypeId) [P.d D.fk,P.sl 1 0 3])),(1,En.mk 0 none (Obj.arr (31:TypeId) false [NX,NX,NX]))]
def ZeV(m:List cj):D:=D.nth (List.map oa m) 0
theorem qd6(m:List cj)(ae:PX×S->Prop):(bif decide ((0:Int)<Xy m) then ob (decide ((0:Int)<=(0:Int)/\(0:Int)<Xy m)) (ob (cw PR (41:TypeId) (ZeV m)) (∃(i:Int) (l:List ak) (K:List (List Int)) (x:cj),[P.d (D.agg [D.sl 7 [],D.sl 1 [NX,NX,NX]]),P.d (D.agg [D.int .u8 (D.aj (D.ar (ZeV m) 0)),D.int .u8 (D.aj (D.ar (ZeV m) 1)),D.int .u8 (D.aj (D.ar (ZeV m) 2)),D.int .u8 (D.aj (D.ar (ZeV m) 3)),D.int .u8 (D.aj (D.ar (ZeV m) 4)),D.bool (D.eG (D.ar (ZeV m) 5))])]=Ro l K::Xx x/\Zo/\(WOk i l K/\FG x)/\ ∀(l':List ak) (K':List (List Int)),DA i l x l' K'->ae (PX.normal,S.mk 25 [L4 m,cE,(4,P.d Zg)] [Rn l' K']))) else ae (PX.exit 0,S.mk 25 JB ZeW))=(aD [(29,Oa)] [] 11 3 (pT m)) ae:=by kernel_rfl
def AQ(m:List cj):Prop:=m.length<=9223372036854775807/\ ∀x∈m,FG x
def DB(m:List cj)(g:List ak):Prop:=bH 16 g/\((∀x∈m,x.what.tmod 8≠7)-> ∀y∈g,y.bs=(0,0))
def qhw:S->K (PX×S):=λs ae=> ∃m,s=pT m/\AQ m/\ae (.exit 0,⟨25,[(3,.ref 0 0 0)],[(0,⟨0,none,.box 62 [.d .fk,.sl 1 0 3]⟩),(1,⟨0,none,arV false [[],[],[]]⟩)]⟩)/\ ∀l (K:List (List Int)),DB m l->ae (.exit 0,⟨25,[(3,.ref 0 0 0)],[(0,⟨0,none,bxW l K⟩)]⟩)
theorem qkf(m:List cj)(ae:P×List (Nat×En)->Prop):(∃(bz:List cj),S.mk 25 (L4 m::cE::K6) ZeW=S.mk 25 (L4 bz::cE::K6) ZeW/\AQ bz/\ae (ZY,Z72)/\ ∀(l:List ak) (_:List (List Int)),DB bz l->ae (ct l,[]))=(aJ [] [(3,ah (aK 11 3) qhw)] 11 [.d (.sl 6 (m.map oa))] []) ae:=by kernel_rfl
def qhx:bg:=λps R ae=> ∃m,ps=[.d (.sl 6 (m.map oa))]/\R=[]/\AQ m/\ae (.sl 0 0 0,[(0,⟨0,none,pb false []⟩)])/\ ∀g,DB m g->ae (bp g,[])
abbrev Xz(z w:Bool)(on:List ay)(h:List Hd)(x:ay)(e:Int):List (Nat×En):=[(0,⟨0,none,.box 30 [iD x.1,iD x.2]⟩),(1,⟨0,none,.box 35 [iD e]⟩),(2,⟨0,none,.box 51 [.sl 3 0 on.length]⟩),(3,⟨0,none,mL w on⟩),(4,⟨0,none,.box 51 [.sl 5 0 h.length]⟩),(5,⟨0,none,mL z (h.map (·.1))⟩),(6,⟨0,none,.box 51 [.sl 7 0 h.length]⟩),(7,⟨0,none,mL z (h.map (·.2))⟩)]
abbrev qcL(l m:List ak)(r:Int)(on:List ay)(h:List Hd)(i:Int):S:=⟨69,[(0,bp l),(1,iD r),(4,.ref 0 0 0),(5,.ref 1 0 0),(6,.ref 2 0 0),(7,.ref 4 0 0),(8,.ref 6 0 0),(20,.sl 8 0 m.length),(21,iD (m.length:Int)),(22,iD i)],Xz false false on h (0,0) 0++[(8,⟨0,none,pb false m⟩)]⟩
abbrev qkg(l:List ak)(r:Int)(on:List ay)(h:List Hd):S:=⟨69,[(0,bp l),(1,iD r),(4,.ref 0 0 0),(5,.ref 1 0 0),(6,.ref 2 0 0),(7,.ref 4 0 0),(8,.ref 6 0 0)],Xz false false on h (0,0) 0⟩
def XA(h:List Hd):Nat×En:=(6,En.mk 0 none (Obj.box (51:TypeId) [P.sl 7 0 (fR h)]))
def XB(h:List Hd):Nat×En:=(4,En.mk 0 none (Obj.box (51:TypeId) [P.sl 5 0 (fR h)]))
def Zf2(on:List ay)(h:List Hd):List (Nat×En):=[yn,Bq,Bp on,N5 on,XB h,(5,Ww h),XA h,(7,Wx h)]
def XC:Nat×P:=(8,P.ref 6 0 0)
def XD:Nat×P:=(7,P.ref 4 0 0)
def Jh:List (Nat×P):=[BW,K1,LR,XD,XC]
theorem qkh(l m:List ak)(r:Int)(on:List ay)(h:List Hd)(i:Int)(ae:PX×S->Prop):(bif Ga i m then ob (u9 i m) (ob (sT i m) (ob (dM m i) (ob (Nat.ble (fR h) (List.length (oq h))&&aI (ZcB h m i) 16) (ob (Nat.ble (fR h) (List.length (qM h))&&aI (ZcC h m i) 16) (ob (Zw i) (ae (PX.normal,S.mk 69 [de l,ZP r,BW,K1,LR,XD,XC,(20,P.sl 8 0 (dn m)),(21,Bi m),(22,P.d (ZA i))] [yn,Bq,Bp on,N5 on,(4,En.mk 0 none (Obj.box (51:TypeId) [P.sl 5 0 (ZcB h m i)])),(5,ZcE h m i),(6,En.mk 0 none (Obj.box (51:TypeId) [P.sl 7 0 (ZcC h m i)])),(7,ZcD h m i),(8,tv m)]))))))) else ae (PX.exit 0,S.mk 69 (de l::ZP r::Jh) (Zf2 on h)))=(fb [] [] [] 17 3 (qcL l m r on h i)) ae:=by kernel_rfl
abbrev QF:Option (List Nat×List Nat):=some ([4,5,6,7,8],[4,5,6,7,8])
abbrev uR(z w:Bool)(on:List ay)(h:List Hd)(x:ay)(e:Int):S:=⟨69,[(4,.ref 0 0 0),(5,.ref 1 0 0),(6,.ref 2 0 0),(7,.ref 4 0 0),(8,.ref 6 0 0)],Xz z w on h x e⟩
def Zf3(h:List Hd):List (Nat×En):=[XB h,(5,En.mk 0 none (Obj.arr (30:TypeId) true (oq h))),XA h,(7,En.mk 0 none (Obj.arr (30:TypeId) true (qM h)))]
def Zf7(on:List ay)(h:List Hd):S:=S.mk 69 Jh (yn::Bq::Bp on::N5 on::Zf3 h)
def Zf4(on:List ay)(h:List Hd):S:=S.mk 69 Jh (yn::Bq::Bp on::ZbV on::Zf3 h)
def Zf5(i:Int)(ae:PX×S×PX×S->Prop)(own:List ak)(on:List ay)(h:List Hd):Prop:=ob (Zw i) (ae (PX.normal,Wv own i,PX.normal,Zf4 on h))
def Zf6(on:List ay)(own:List ak)(i:Int)(ae:PX×S×PX×S->Prop)(h:List Hd):Prop:= ∃(l:List ay) (s:ay),P.d (N6 on)::IJ own i=kC l::jy s/\Zo/\kQ l/\ ∀(b:Bool),Fu b l s->bif b then ae (PX.ret,LQ own,PX.ret,S.mk 69 Jh (ZbR own i::Bq::Bp on::ZbV on::Zf3 h)) else Zf5 i ae own on h
def Zf8(h:List Hd)(own:List ak)(i:Int):List P:=P.d (D.sl 2 (List.take (fR h) (oq h)))::P.d (D.sl 2 (List.take (fR h) (qM h)))::IJ own i
def Zf9(h:List Hd)(own:List ak)(i:Int)(on:List ay)(ae:PX×S×PX×S->Prop):Prop:= ∃(l:List Hd) (x:ay),Zf8 h own i=P.d (D.sl 2 (oq l))::P.d (D.sl 2 (qM l))::jy x/\Zo/\V2 l/\ ∀(e:Int) (r:ay) (ev:Bool),mG l x=(e,r,ev)->bif e==(0:Int) then bif lX ev then Zf6 on own i ae h else ob (Zw i) (ae (PX.normal,Wv own i,PX.normal,Zf7 on h)) else ob (Zw i) (ae (PX.normal,Wv own i,PX.normal,Zf7 on h))
theorem qmd(own:List ak)(on:List ay)(h:List Hd)(i:Int)(ae:PX×S×PX×S->Prop):(bif nv i own then ob (iC i own) (ob (dM own i) (bif Qr own i then ae (PX.ret,LQ own,PX.exit 2,S.mk 69 Jh (Zf2 on h)) else Zf9 h own i on ae)) else ae (PX.exit 0,LQ own,PX.normal,S.mk 69 Jh (Zf2 on h)))=(mK [(37,hEr),(38,I7)] [] 17 9 2000000 QF 1 Fv 1 (Bo own i,(.normal,uR false false on h (0,0) 0))) ae:=by kernel_rfl
theorem qme(own:List ak)(on:List ay)(h:List Hd)(i:Int)(ae:PX×S×PX×S->Prop):(bif nv i own then ob (iC i own) (ob (dM own i) (bif Qr own i then ae (PX.ret,LQ own,PX.exit 2,Zf7 on h) else Zf9 h own i on ae)) else ae (PX.exit 0,LQ own,PX.normal,Zf7 on h))=(mK [(37,hEr),(38,I7)] [] 17 9 2000000 QF 1 Fv 1 (Bo own i,(.normal,uR true false on h (0,0) 0))) ae:=by kernel_rfl
theorem qmf(own:List ak)(on:List ay)(h:List Hd)(i:Int)(ae:PX×S×PX×S->Prop):(bif nv i own then ob (iC i own) (ob (dM own i) (bif Qr own i then ae (PX.ret,LQ own,PX.exit 2,Zf4 on h) else∃(l:List Hd) (x:ay),Zf8 h own i=P.d (D.sl 2 (oq l))::P.d (D.sl 2 (qM l))::jy x/\Zo/\V2 l/\ ∀(e:Int) (r:ay) (ev:Bool),mG l x=(e,r,ev)->bif e==(0:Int) then bif lX ev then Zf6 on own i ae h else Zf5 i ae own on h else Zf5 i ae own on h)) else ae (PX.exit 0,LQ own,PX.normal,Zf4 on h))=(mK [(37,hEr),(38,I7)] [] 17 9 2000000 QF 1 Fv 1 (Bo own i,(.normal,uR true true on h (0,0) 0))) ae:=by kernel_rfl
def qhy:Av:=λy ae=> ∃own on h,(own.length<=1000000/\on.length<=1000000/\h.length<=1000000/\(h.map (·.1)).Nodup)/\y=(Bo own 0,(.normal,uR false false on h (0,0) 0))/\
 (∀z w s,bW h on own=some s->ae (.ret,YI own,(.ret,uR z w on h s 0)))/\(∀z w,bW h on own=none->ae (.exit 0,YI own,(.normal,uR z w on h (0,0) 0)))/\(∀z w,bW h on own=none->ae (.ret,YI own,(.exit 2,uR z w on h (0,0) 0)))
abbrev qki(l own:List ak)(on:List ay)(h:List Hd)(r:Int):S:=⟨69,[(0,bp l),(1,iD r),(4,.ref 0 0 0),(5,.ref 1 0 0),(6,.ref 2 0 0),(7,.ref 4 0 0),(8,.ref 6 0 0),(37,bp l),(38,iD r),(39,.fn Fv [.ref 1039000 0 0])],Xz false false on h (0,0) 0++[(1039000,⟨0,none,.box 22 [bp own]⟩)]⟩
def Zfa(bG:List ay)(w:Bool)(nw:List Hd)(z:Bool):List (Nat×En):=[Bq,Bp bG,(3,En.mk 0 none (Obj.arr (30:TypeId) w (dq bG))),XB nw,(5,En.mk 0 none (Obj.arr (30:TypeId) z (oq nw))),XA nw,(7,En.mk 0 none (Obj.arr (30:TypeId) z (qM nw)))]
theorem qkj(l own:List ak)(on:List ay)(h:List Hd)(r:Int)(ae:PX×S->Prop):(∃(mM:List ak) (bG:List ay) (nw:List Hd),(iR mM/\kQ bG/\V2 nw)/\(Zc2 own,PX.normal,S.mk 69 Jh (Zf2 on h))=(Zc2 mM,PX.normal,S.mk 69 Jh (Zf2 bG nw))/\(∀(z w:Bool) (s:ay),bW nw bG mM=some s->ae (PX.ret,S.mk 69 Jh (Ff s::Zfa bG w nw z)))/\(∀(z w:Bool),bW nw bG mM=none->ae (PX.normal,S.mk 69 Jh (yn::Zfa bG w nw z)))/\ ∀(z w:Bool),bW nw bG mM=none->ae (PX.exit 2,S.mk 69 Jh (yn::Zfa bG w nw z)))=(yi [] [] (λfi yt=>if Nat.beq fi Fv&&Nat.beq yt 1 then [(1,ep (aK Fv 1) qhy)] else []) 17 9 2000000 QF (qki l own on h r)) ae:=by kernel_rfl
def qhz:S->K (PX×S):=λs ae=> ∃l own on h r,s=qki l own on h r/\(own.length<=1000000/\on.length<=1000000/\h.length<=1000000/\(h.map (·.1)).Nodup)/\(∀z w s,bW h on own=some s->ae (.ret,uR z w on h s 0))/\(∀z w,bW h on own=none->ae (.normal,uR z w on h (0,0) 0))/\(∀z w,bW h on own=none->ae (.exit 2,uR z w on h (0,0) 0))
def qhA:S->K (PX×S):=λs ae=> ∃l m r on,s=qcL l m r on [] 0/\m.length<=1000000/\ ∀h,h=m.map eC->ae (.exit 0,qkg l r on h)
def Zfc(l:List ak)(r:Int)(bG:List ay)(nw:List Hd)(own:List ak):S:=S.mk 69 [de l,ZP r,BW,K1,LR,XD,XC,(37,ct l),(38,Zm r),(39,P.fn (101:FuncId) [P.ref 1039000 0 0])] [yn,Bq,Bp bG,N5 bG,XB nw,(5,Ww nw),XA nw,(7,Wx nw),(1039000,En.mk 0 none (Obj.box (22:TypeId) (jl own)))]
def Zfb(mI:List ak)(bT:Int)(bz:List ak)(on:List ay):S:=S.mk 69 [de mI,ZP bT,BW,K1,LR,XD,XC,(20,P.sl 8 0 (dn bz)),(21,Bi bz),(22,P.d Z7)] [yn,Bq,Bp on,N5 on,(4,En.mk 0 none (Obj.box (51:TypeId) [P.sl 5 0 0])),(5,vX),(6,En.mk 0 none (Obj.box (51:TypeId) [P.sl 7 0 0])),(7,vX),(8,tv bz)]
theorem qhB(l:List ak)(r:Int)(ae:P×List (Nat×En)->Prop):(∃(au:List ak),jl l=jl au/\Zo/\lY au/\ ∀(o:List ay),o=fP au-> ∃(eD:List ak),jl l=jl eD/\Zo/\lY eD/\ ∀(m:List ak),m=aw eD-> ∃(mI:List ak) (bz:List ak) (bT:Int) (on:List ay),Zfb l r m o=Zfb mI bT bz on/\iR bz/\ ∀(h:List Hd),h=List.map eC bz-> ∃(l:List ak) (r:Int),B9 mI bT=B9 l r/\Zo/\lY l/\ ∀(o:List ak),o=bt (aw l) r-> ∃(l:List ak) (own:List ak) (bG:List ay) (nw:List Hd) (r:Int),Zfc mI bT on h o=Zfc l r bG nw own/\(iR own/\kQ bG/\V2 nw)/\(∀(_ _:Bool) (s:ay),bW nw bG own=some s->Zc8 ae s)/\(∀(_ _:Bool),bW nw bG own=none->Zc9 ae)/\ ∀(_ _:Bool),bW nw bG own=none->Zc9 ae)=(sM [(30,uD),(36,V7)] [(35,LP)] [(3,ah (aK 17 3) qhA),(500009,qhz)] 17 [bp l,iD r] []) ae:=by kernel_rfl
section
variable{X:XF}{w0:World}(hX:dw PR w0 X.cf)
include hX
theorem qmg:LN w0 17 3 (ah (aK 17 3) qhA):=LN.idx hX (H:=[]) (HN:=[]) (hk:=[]) Gb (by kernel_rfl) (by kernel_rfl) (by kernel_rfl) .nil .nil .nil
 (A:=List ak×List ak×Int×List ay) (B:=List Hd) (λa h i=>qcL a.1 a.2.1 a.2.2.1 a.2.2.2 h i) (λa=>a.2.1.length) (λa i h=>a.2.1.length<=1000000/\h=(a.2.1.take i).map eC)
 (λa x=>x=(.exit 0,qkg a.1 a.2.2.1 a.2.2.2 (a.2.1.map eC)))
 (by
  rintro⟨l,m,r,on⟩ h i ae h0 bK aQ ⟨hm,hh⟩ hn ho
  try dsimp only at*
  (rw[<-qkh];delta qM Wx fR XA oq Ww XB dq pc N5 dv Bp Z7 rA Qq Bq Bb yn Zf2 XC XD tj LR iN K1 bP BW Jh cg tv Zt gT Yv ZcD la pz pA tA ZcE ZA dn l4 Bi Zk Zm ZP ct de Za Z9 Zw ZcC ZcB dM gi sT u9 Ga)
  have e1:D.nth (m.map aR) i.toNat=aR m[i.toNat]:=ax _ _ _ aQ;have hl:h.length<=1000000:=by rw[hh,zaa,zas];omega
  have jS:(m.take (i.toNat+1)).map eC=h++[eC m[i.toNat]]:=by rw[zae aQ,zau,hh];rfl
  rw[e1];generalize m[i.toNat]=g at*
  have p1:List.take h.length ((h.map λx=>x.1).map bh)++[bh g.s]=((h++[eC g]).map λx=>x.1).map bh:=by rw[zal (by simp),zau,zau];rfl
  have p2:List.take h.length ((h.map λx=>x.2).map bh)++[bh g.bs]=((h++[eC g]).map λx=>x.2).map bh:=by rw[zal (by simp),zau,zau];rfl
  have hy:=hn (h++[eC g]) ⟨hm,jS.symm⟩;simp only[qcL,Xz,mL,zcI,zbk] at hy;rw[<-p1,<-p2,zah] at hy;simp only[zaa];refine bn bK (ao ⟨h0,bK⟩ (ao aQ (aq (fh _) (aq ?_ (aq ?_ (ao (by omega) ?_))))))
  ·rw[zab];exact⟨by simp,cd hl (by omega)⟩
  ·rw[zab];exact⟨by simp,cd hl (by omega)⟩
  exact hy)
 (by
  rintro⟨l,m,r,on⟩ h i ae hi ⟨hm,hh⟩ ho
  try dsimp only at*
  (rw[<-qkh];delta qM Wx fR XA oq Ww XB dq pc N5 dv Bp Z7 rA Qq Bq Bb yn Zf2 XC XD tj LR iN K1 bP BW Jh cg tv Zt gT Yv ZcD la pz pA tA ZcE ZA dn l4 Bi Zk Zm ZP ct de Za Z9 Zw ZcC ZcB dM gi sT u9 Ga)
  refine jU (by omega) (ho _ (λh=>by cases h) ?_);rw[hh,zaj])
 (by rintro s ae ⟨l,m,r,on,rfl,hm,hp⟩;refine⟨(l,m,r,on),[],rfl,⟨hm,rfl⟩,?_⟩;rintro x rfl;exact hp _ rfl)
theorem qmh:LY w0 17 9 1 Fv 1 (ep (aK Fv 1) qhy):=LY.par hX (H:=[(37,hEr),(38,I7)]) (HN:=[]) (base:=2000000) (keep:=QF) Gb (.cons qlJ (.cons qdT .nil)) .nil (by kernel_rfl) (by kernel_rfl) (by kernel_rfl)
 (A:=List ak×List ay×List Hd) (B:=(Bool×Bool)×Int)
 (λa b=>(Bo a.1 b.2,(.normal,uR b.1.1 b.1.2 a.2.1 a.2.2 (0,0) 0)))
 (λa b=>(a.1.length<=1000000/\a.2.1.length<=1000000/\a.2.2.length<=1000000/\(a.2.2.map (·.1)).Nodup)/\(b.1.2=true->b.1.1=true)/\0<=b.2/\b.2.toNat<=a.1.length/\bW a.2.2 a.2.1 a.1=bW a.2.2 a.2.1 (a.1.drop b.2.toNat))
 (λa b=>((a.1.length:Int)-b.2).toNat)
 (λa x=>(∃z w s,bW a.2.2 a.2.1 a.1=some s/\x=(.ret,YI a.1,(.ret,uR z w a.2.1 a.2.2 s 0)))\/(∃z w,bW a.2.2 a.2.1 a.1=none/\x=(.exit 0,YI a.1,(.normal,uR z w a.2.1 a.2.2 (0,0) 0)))\/(∃z w,bW a.2.2 a.2.1 a.1=none/\x=(.ret,YI a.1,(.exit 2,uR z w a.2.1 a.2.2 (0,0) 0))))
 (by
  rintro⟨own,on,h⟩ ⟨⟨z,w⟩,i⟩ ⟨hm,hzw,h0,hi,hu⟩
  try dsimp only at*
  have key: ∀(aQ:i.toNat<own.length),bW h on own=if own[i.toNat].bs=(0,0) then none else if uo h own[i.toNat].s=true/\own[i.toNat].s∈on then some own[i.toNat].s else bW h on (own.drop (i+1).toNat):=λaQ=>by rw[hu,za4 aQ,show(i+1).toNat=i.toNat+1 by omega];rfl
  have xq: ¬i.toNat<own.length->bW h on own=none:=λaQ=>by rw[hu,zcN (by omega)];rfl
  have tk:List.take on.length (on.map bh)=on.map bh:=zal (by simp);have tk1:List.take h.length ((h.map λx=>x.1).map bh)=(h.map λx=>x.1).map bh:=zal (by simp);have tk2:List.take h.length ((h.map λx=>x.2).map bh)=(h.map λx=>x.2).map bh:=zal (by simp);rcases z with _ |_<;>rcases w with _ |_
  ·(rw[<-qmd];delta qM fR XA oq XB Zf3 dq pc N5 dv Bp Z7 rA Qq Bq Bb yn XC XD tj LR iN K1 bP BW Jh Zf7 cg ct jl YK ZA ZT gi Fb YL Wv Za Z9 Zw ZbV Zf4 Zf5 Zt gT la pz pA ZbR LQ Fu kQ Zo iP iQ nb jy kC tA IJ N6 Zf6 lX pZ V2 Zf8 Zf9 Wx Ww Zf2 Qr dM iC nv)
   rw[zaa];refine cr (λhp=> ?_) λhp=> .inr (.inl ⟨false,false,xq (by omega),rfl⟩);have aQ:i.toNat<own.length:=by omega
   have e1:D.nth (own.map aR) i.toNat=aR own[i.toNat]:=ax _ _ _ aQ;have key:=key aQ;rw[e1,tk,tk1,tk2];generalize own[i.toNat]=g at*
   have u1:D.aj (D.ar (aR g) 4)=g.bs.1:=rfl;have u2:D.aj (D.ar (aR g) 5)=g.bs.2:=rfl;rw[u1,u2];refine ao ⟨h0,hp⟩ (aq (fh _) (aA (λhb=> ?_) λhb=>⟨h,g.s,rfl,rfl,⟨hm.2.2.1,hm.2.2.2⟩,λe r ev hr=> ?_⟩))
   ·have hz:g.bs=(0,0):=by simp only[zbx,zab,zaW] at hb;exact zdw hb.1 hb.2
    exact .inr (.inr ⟨false,false,by rw[key,zap hz],rfl⟩)
   have hz: ¬g.bs=(0,0):=λhz=>by rw[hz] at hb;simp at hb
   have XE:uo h g.s=(e==0&& !ev):=by unfold uo;rw[hr]
   rw[zan hz,XE] at key;refine A9 (λhe=>aA (λhv=>⟨on,g.s,rfl,rfl,hm.2.1,λb cu=> ?_⟩) λhv=>ao (by omega) ?_) λhe=>ao (by omega) ?_
   ·subst cu;have ho:(e==0&& !ev)=true:=by rw[hv];simp[he]
    refine cr (λma=> .inl ⟨true,true,g.s,by rw[key,zap ⟨ho,ma⟩],rfl⟩) λma=>ao (by omega) ?_;exact⟨((own.length:Int)-(i+1)).toNat,by omega,((true,true),i+1),by simp only[Bo,zaa],⟨hm,λ_=>rfl,by show 0<=i+1;omega,by show(i+1).toNat<=_;omega,by show bW h on own=bW h on (own.drop (i+1).toNat);rw[key,zan (λhh=>ma hh.2)]⟩,rfl⟩
   ·exact⟨((own.length:Int)-(i+1)).toNat,by omega,((true,false),i+1),by simp only[Bo,zaa],⟨hm,λ_=>rfl,by show 0<=i+1;omega,by show(i+1).toNat<=_;omega,by show bW h on own=bW h on (own.drop (i+1).toNat);rw[key,zan (λhh=>by rw[hv,zcA] at hh;cases hh.1)]⟩,rfl⟩
   exact⟨((own.length:Int)-(i+1)).toNat,by omega,((true,false),i+1),by simp only[Bo,zaa],⟨hm,λ_=>rfl,by show 0<=i+1;omega,by show(i+1).toNat<=_;omega,by show bW h on own=bW h on (own.drop (i+1).toNat);rw[key,zan (λhh=>he (by have:=hh.1;rw[zab] at this;simpa using this.1))]⟩,rfl⟩
  ·exact absurd (hzw rfl) (by decide)
  ·(rw[<-qme];delta qM fR XA oq XB Zf3 dq pc N5 dv Bp Z7 rA Qq Bq Bb yn XC XD tj LR iN K1 bP BW Jh Zf7 cg ct jl YK ZA ZT gi Fb YL Wv Za Z9 Zw ZbV Zf4 Zf5 Zt gT la pz pA ZbR LQ Fu kQ Zo iP iQ nb jy kC tA IJ N6 Zf6 lX pZ V2 Zf8 Zf9 Qr dM iC nv)
   rw[zaa];refine cr (λhp=> ?_) λhp=> .inr (.inl ⟨true,false,xq (by omega),rfl⟩);have aQ:i.toNat<own.length:=by omega
   have e1:D.nth (own.map aR) i.toNat=aR own[i.toNat]:=ax _ _ _ aQ;have key:=key aQ;rw[e1,tk,tk1,tk2];generalize own[i.toNat]=g at*
   have u1:D.aj (D.ar (aR g) 4)=g.bs.1:=rfl;have u2:D.aj (D.ar (aR g) 5)=g.bs.2:=rfl;rw[u1,u2];refine ao ⟨h0,hp⟩ (aq (fh _) (aA (λhb=> ?_) λhb=>⟨h,g.s,rfl,rfl,⟨hm.2.2.1,hm.2.2.2⟩,λe r ev hr=> ?_⟩))
   ·have hz:g.bs=(0,0):=by simp only[zbx,zab,zaW] at hb;exact zdw hb.1 hb.2
    exact .inr (.inr ⟨true,false,by rw[key,zap hz],rfl⟩)
   have hz: ¬g.bs=(0,0):=λhz=>by rw[hz] at hb;simp at hb
   have XE:uo h g.s=(e==0&& !ev):=by unfold uo;rw[hr]
   rw[zan hz,XE] at key;refine A9 (λhe=>aA (λhv=>⟨on,g.s,rfl,rfl,hm.2.1,λb cu=> ?_⟩) λhv=>ao (by omega) ?_) λhe=>ao (by omega) ?_
   ·subst cu;have ho:(e==0&& !ev)=true:=by rw[hv];simp[he]
    refine cr (λma=> .inl ⟨true,true,g.s,by rw[key,zap ⟨ho,ma⟩],rfl⟩) λma=>ao (by omega) ?_;exact⟨((own.length:Int)-(i+1)).toNat,by omega,((true,true),i+1),by simp only[Bo,zaa],⟨hm,λ_=>rfl,by show 0<=i+1;omega,by show(i+1).toNat<=_;omega,by show bW h on own=bW h on (own.drop (i+1).toNat);rw[key,zan (λhh=>ma hh.2)]⟩,rfl⟩
   ·exact⟨((own.length:Int)-(i+1)).toNat,by omega,((true,false),i+1),by simp only[Bo,zaa],⟨hm,λ_=>rfl,by show 0<=i+1;omega,by show(i+1).toNat<=_;omega,by show bW h on own=bW h on (own.drop (i+1).toNat);rw[key,zan (λhh=>by rw[hv,zcA] at hh;cases hh.1)]⟩,rfl⟩
   exact⟨((own.length:Int)-(i+1)).toNat,by omega,((true,false),i+1),by simp only[Bo,zaa],⟨hm,λ_=>rfl,by show 0<=i+1;omega,by show(i+1).toNat<=_;omega,by show bW h on own=bW h on (own.drop (i+1).toNat);rw[key,zan (λhh=>he (by have:=hh.1;rw[zab] at this;simpa using this.1))]⟩,rfl⟩
  ·(rw[<-qmf];delta qM fR XA oq XB Zf3 dq ZbV dv Bp Z7 rA Qq Bq Bb yn XC XD tj LR iN K1 bP BW Jh Zf4 cg ct jl YK ZA ZT gi Fb YL Wv Za Z9 Zw Zf5 Zt gT la pz pA ZbR LQ Fu kQ Zo iP iQ nb jy kC tA IJ N6 Zf6 lX pZ V2 Zf8 Qr dM iC nv)
   rw[zaa];refine cr (λhp=> ?_) λhp=> .inr (.inl ⟨true,true,xq (by omega),rfl⟩);have aQ:i.toNat<own.length:=by omega
   have e1:D.nth (own.map aR) i.toNat=aR own[i.toNat]:=ax _ _ _ aQ;have key:=key aQ;rw[e1,tk,tk1,tk2];generalize own[i.toNat]=g at*
   have u1:D.aj (D.ar (aR g) 4)=g.bs.1:=rfl;have u2:D.aj (D.ar (aR g) 5)=g.bs.2:=rfl;rw[u1,u2];refine ao ⟨h0,hp⟩ (aq (fh _) (aA (λhb=> ?_) λhb=>⟨h,g.s,rfl,rfl,⟨hm.2.2.1,hm.2.2.2⟩,λe r ev hr=> ?_⟩))
   ·have hz:g.bs=(0,0):=by simp only[zbx,zab,zaW] at hb;exact zdw hb.1 hb.2
    exact .inr (.inr ⟨true,true,by rw[key,zap hz],rfl⟩)
   have hz: ¬g.bs=(0,0):=λhz=>by rw[hz] at hb;simp at hb
   have XE:uo h g.s=(e==0&& !ev):=by unfold uo;rw[hr]
   rw[zan hz,XE] at key;refine A9 (λhe=>aA (λhv=>⟨on,g.s,rfl,rfl,hm.2.1,λb cu=> ?_⟩) λhv=>ao (by omega) ?_) λhe=>ao (by omega) ?_
   ·subst cu;have ho:(e==0&& !ev)=true:=by rw[hv];simp[he]
    refine cr (λma=> .inl ⟨true,true,g.s,by rw[key,zap ⟨ho,ma⟩],rfl⟩) λma=>ao (by omega) ?_;exact⟨((own.length:Int)-(i+1)).toNat,by omega,((true,true),i+1),by simp only[Bo,zaa],⟨hm,λ_=>rfl,by show 0<=i+1;omega,by show(i+1).toNat<=_;omega,by show bW h on own=bW h on (own.drop (i+1).toNat);rw[key,zan (λhh=>ma hh.2)]⟩,rfl⟩
   ·exact⟨((own.length:Int)-(i+1)).toNat,by omega,((true,true),i+1),by simp only[Bo,zaa],⟨hm,λ_=>rfl,by show 0<=i+1;omega,by show(i+1).toNat<=_;omega,by show bW h on own=bW h on (own.drop (i+1).toNat);rw[key,zan (λhh=>by rw[hv,zcA] at hh;cases hh.1)]⟩,rfl⟩
   exact⟨((own.length:Int)-(i+1)).toNat,by omega,((true,true),i+1),by simp only[Bo,zaa],⟨hm,λ_=>rfl,by show 0<=i+1;omega,by show(i+1).toNat<=_;omega,by show bW h on own=bW h on (own.drop (i+1).toNat);rw[key,zan (λhh=>he (by have:=hh.1;rw[zab] at this;simpa using this.1))]⟩,rfl⟩)
 (by
  rintro y ae ⟨own,on,h,h1,rfl,h2,h3,h4⟩;refine⟨(own,on,h),((false,false),0),rfl,⟨h1,by decide,zbF _,by simp,rfl⟩,?_⟩;rintro x (⟨z,w,s,h,rfl⟩| ⟨z,w,h,rfl⟩| ⟨z,w,h,rfl⟩)
  ·exact h2 z w s h
  ·exact h3 z w h
  exact h4 z w h)
theorem qmi:FN w0 17 9 qhz:=FN.mk hX (H:=[]) (HN:=[]) Gb .nil .nil (base:=2000000) (keep:=QF) (by kernel_rfl) (hk:=λfi yt=>if Nat.beq fi Fv&&Nat.beq yt 1 then [(1,ep (aK Fv 1) qhy)] else [])
 (by
  intro fi yt h Ba hl;split at hl
  next hb=>
   rw[zab] at hb;have e1:=zag hb.1;have e2:=zag hb.2;subst e1 e2;unfold lk at hl;split at hl
   next he=>have e3:=zag he;subst e3;cases hl;exact⟨by kernel_rfl,qmh hX⟩
   cases hl
  cases hl)
 (by
  rintro s ae ⟨l,own,on,h,r,rfl,hm,h1,h2,h3⟩
  (rw[<-qkj];delta Z7 rA Bb yn qM fR XA oq XB dq dv Bp Qq Bq Zfa iP iQ yh Ff Wx Ww pc N5 Zf2 XC XD tj LR iN K1 bP BW Jh cg ct jl YK pU gi Fb YL Zc2 pZ V2 kQ dn iR)
  exact⟨own,on,h,hm,rfl,h1,h2,h3⟩)
def sa:bg:=λps R ae=> ∃l r,ps=[bp l,iD r]/\R=[]/\lY l/\ ∀a,a=kx l r->ae (stO a,[])
theorem qhC(hV:ND w0 35 LP):ND w0 17 sa:=ND.mk hX (H:=[(30,uD),(36,V7)]) (HN:=[(35,LP)]) (hk:=[(3,ah (aK 17 3) qhA),(500009,qhz)]) Gb (by kernel_rfl) (by kernel_rfl) (.cons NM (.cons qdK .nil)) (.cons hV .nil) (.loop (by decide) (qmg hX).T (.range (qmi hX) .nil)) (by
 intro ps R ae hh;obtain⟨l,r,rfl,rfl,hs,hp⟩:=hh
 (rw[<-qhB];delta Z7 Zc9 rA iP iQ nb Zc8 fR pZ V2 dv kQ cg ct jl qM Wx XA oq Ww XB dq pc N5 Bp Qq Bq Bb yn Zk Zm XC XD tj LR iN K1 bP BW ZP de Zfc Zn B9 dn iR tv vX l4 Bi Zfb Zo)
 have hl:=hs.1;have h1:=uL l;have h2:=dP l;have h3:(bt (aw l) r).length<=(aw l).length:=by rw[(dB _ _).length_eq];exact zaG _ _
 have kY:=EM l;refine⟨l,rfl,rfl,hs,λo ho=>⟨l,rfl,rfl,hs,λm hm=>⟨l,m,r,o,rfl,by rw[hm];omega,λh hh=>⟨l,r,rfl,rfl,hs,λow how=>⟨l,ow,o,h,r,rfl,⟨by rw[how];omega,by rw[ho];omega,by rw[hh,zaa,hm];omega,by rw[hh,hm];exact kY⟩,λ_ _ s hr=> ?_,λ_ _ hr=> ?_,λ_ _ hr=> ?_⟩⟩⟩⟩⟩
 ·have e:h=qI l:=by rw[hh,hm];rfl
  exact hp (s,0) (by unfold kx;rw[<-ho,<-how,<-e,hr];rfl)
 ·have e:h=qI l:=by rw[hh,hm];rfl
  exact hp ((0,0),200) (by unfold kx;rw[<-ho,<-how,<-e,hr];rfl)
 have e:h=qI l:=by rw[hh,hm];rfl
 exact hp ((0,0),200) (by unfold kx;rw[<-ho,<-how,<-e,hr];rfl))
end
end Pi
namespace Pi
open Go Go.Proofs Go.RowKit Go.Proofs.YtngoddkencoalaaGreatDoor
set_option maxRecDepth 100000
abbrev sb:List (String×DataW Unit):=[("unicode/utf8.acceptRanges",Rows.laid_unicode_utf8_acceptRanges),("unicode/utf8.first",Rows.laid_unicode_utf8_first)]
theorem Ji(w:World)(h:laidMetH Tryz.prog sb w):laidMet Tryz.prog sb w:=by
 unfold laidMetH at h;have e:(sb.filter λx=>x.2.handleName?.isSome)=[]:=by kernel_rfl
 rw[e] at h;exact h
theorem qcM(w:World)(h:laidMet Tryz.prog sb w):laidMetH Tryz.prog sb w:=by
 unfold laidMetH;have e:(sb.filter λx=>x.2.handleName?.isSome)=[]:=by kernel_rfl
 rw[e];exact h
theorem qkk:(Rows.laid_unicode_utf8_first:DataW Unit)=Lib.firstData:=by kernel_rfl
theorem qkl:(Rows.laid_unicode_utf8_acceptRanges:DataW Unit)=Lib.acceptData:=by kernel_rfl
def qmj:Go.Shelf.Ren:=⟨λn=>n,λ|5=>5 |119=>242 |138=>244 |139=>245 |n=>n,λ|3=>0 |4=>1 |n=>n⟩
theorem qkm{W:World}(h:laidMet Tryz.prog sb W):Lib.Utf8Tabs 0 1 W:=
 utf8Tabs_of_readsT (ρ:=qmj) ⟨by kernel_rfl,by kernel_rfl,by kernel_rfl,by kernel_rfl⟩ ⟨by kernel_rfl,by kernel_rfl,by kernel_rfl,by kernel_rfl,by kernel_rfl,by kernel_rfl,by kernel_rfl⟩
  (by rw[<-qkk];exact Lib.laidMet.reads h (.tail _ (.head _)))
  (by rw[<-qkl];exact Lib.laidMet.reads h (.head _))
theorem qhD{W:World}(h0:laidMetH Tryz.prog sb W)(hs:W.ShapedOpen Tryz.prog):StW W:=by have h:=Ji W h0;refine⟨?_,qkm h⟩;exact cell_of_shapedOpen_int (zero:= #[.int .i64 0]) (t:=3) hs (zbO (by kernel_rfl)) (by kernel_rfl) rfl (by kernel_rfl) (by kernel_rfl) Tryz.underlying3
noncomputable def wL(os:Os):World:=World.laidAll Tryz.prog os sb
theorem qhE(os:Os)(args:Array Value):laidMet Tryz.prog sb ((wL os).forCall (λ_ _=>0) ⟨#[],args,[]⟩).memory:=
 laidMet_laidAll _ (by kernel_rfl) (by kernel_rfl)
open Classical in
noncomputable def uS:TF:=λps R=>if h: ∃a:List ak×Int,ps=[bp a.1,iD a.2]/\R=[]/\lY a.1 then some (stO (nR h.choose.1 h.choose.2),[]) else none
open Classical in
noncomputable def uT:TF:=λps R=>if h: ∃a:List ak×Int,ps=[bp a.1,iD a.2]/\R=[]/\lY a.1 then some (stO (kx h.choose.1 h.choose.2),[]) else none
theorem L5{ps:List P}{R:List (Nat×En)}{y:P×List (Nat×En)}(h:uS ps R=some y):xc ps R (λz=>z=y):=by
 unfold uS at h;split at h
 next e=>obtain⟨h1,h2,h3⟩:=e.choose_spec;exact⟨e.choose.1,e.choose.2,h1,h2,h3,λa ha=>by rw[ha];exact zce h⟩
 cases h
theorem L6{ps:List P}{R:List (Nat×En)}{y:P×List (Nat×En)}(h:uT ps R=some y):sa ps R (λz=>z=y):=by
 unfold uT at h;split at h
 next e=>obtain⟨h1,h2,h3⟩:=e.choose_spec;exact⟨e.choose.1,e.choose.2,h1,h2,h3,λa ha=>by rw[ha];exact zce h⟩
 cases h
theorem Oc{l m:List ak}{r s:Int}(h:[bp l,iD r]=[bp m,iD s]):l=m/\r=s:=by
 have c:l.map aR=m.map aR/\r=s:=by simpa using h
 exact⟨AB qdJ c.1,c.2⟩
theorem L7{ps:List P}{R:List (Nat×En)}{ae:P×List (Nat×En)->Prop}(h:xc ps R ae): ∃x,uS ps R=some x/\ae x:=by
 obtain⟨l,r,h1,h2,h3,hp⟩:=h;have e: ∃a:List ak×Int,ps=[bp a.1,iD a.2]/\R=[]/\lY a.1:=⟨(l,r),h1,h2,h3⟩
 obtain⟨c1,_,_⟩:=e.choose_spec;obtain⟨e1,e2⟩:=Oc (h1.symm.trans c1);refine⟨_,?_,hp _ rfl⟩;unfold uS;rw[zds e,<-e1,<-e2]
theorem L8{ps:List P}{R:List (Nat×En)}{ae:P×List (Nat×En)->Prop}(h:sa ps R ae): ∃x,uT ps R=some x/\ae x:=by
 obtain⟨l,r,h1,h2,h3,hp⟩:=h;have e: ∃a:List ak×Int,ps=[bp a.1,iD a.2]/\R=[]/\lY a.1:=⟨(l,r),h1,h2,h3⟩
 obtain⟨c1,_,_⟩:=e.choose_spec;obtain⟨e1,e2⟩:=Oc (h1.symm.trans c1);refine⟨_,?_,hp _ rfl⟩;unfold uT;rw[zds e,<-e1,<-e2]
structure XT(X:XF):Prop where
 bs: ∀ps R,X.cf 19 ps R=uS ps R
 qbo: ∀ps R,X.cf 17 ps R=uT ps R
theorem Od{X:XF}(hX:XT X):FD X 19 xc:=QO.tX Tryz.func19 (by kernel_rfl) λps R ae h=>by obtain⟨x,h1,h2⟩:=L7 h;exact⟨x,by rw[<-h1];exact hX.bs ps R,h2⟩
theorem FH{X:XF}(hX:XT X):FD X 17 sa:=QO.tX Tryz.func17 (by kernel_rfl) λps R ae h=>by obtain⟨x,h1,h2⟩:=L8 h;exact⟨x,by rw[<-h1];exact hX.qbo ps R,h2⟩
noncomputable def Oe:XF:=⟨xOf ((19,uS)::(17,uT)::xL),λf hf ps R=>by
 show(if Nat.beq 19 f then uS ps R else if Nat.beq 17 f then uT ps R else xB f ps R)=_;split
 next he=>
  have:=zag he;subst this;have h0:gZ 19 xsB=false:=by kernel_rfl
  rw[h0] at hf;cases hf
 split
 next he=>
  have:=zag he;subst this;have h0:gZ 17 xsB=false:=by kernel_rfl
  rw[h0] at hf;cases hf
 rfl⟩
theorem qcN:XT Oe:=⟨λ_ _=>rfl,λ_ _=>rfl⟩
theorem XG{w1:World}(hw1:StW w1):dw Tryz.prog {w1 with drawn:=0} Oe.cf:=by
 have h0:=qir hw1;have hU:Pd Tryz.prog {w1 with drawn:=0} 19 uS:=Pd.ofN (qgX (X:=MU) h0 (qdV (X:=MU) h0)) λps R y h=>L5 h;have hR:Pd Tryz.prog {w1 with drawn:=0} 17 uT:=Pd.ofN (qhC (X:=MU) h0 (qdV (X:=MU) h0)) λps R y h=>L6 h;intro f ps R p R1 h';have h':(if Nat.beq 19 f then uS ps R else if Nat.beq 17 f then uT ps R else xB f ps R)=some (p,R1):=h';split at h'
 next hf=>have hf:=zag hf;subst hf;exact hU rfl ps R p R1 h'
 split at h'
 next hf=>have hf:=zag hf;subst hf;exact hR rfl ps R p R1 h'
 exact h0 f ps R p R1 h'
end Pi
namespace Pi
open Go Go.Proofs
set_option maxRecDepth 100000
set_option maxHeartbeats 0
theorem uU{a b:Int}(h:0<=a)(hb:0<b):0<=a.tmod b/\a.tmod b<b:=⟨Int.tmod_nonneg b h,Int.tmod_lt_of_pos a hb⟩
theorem bH.smS{i:Int}{l:List ak}(h:bH i l)(hi:i<=1000):SmS l:=by
 have h1:=h.len;have h2:=h.cG;refine⟨⟨by omega,λg hg=>⟨λo ho=> ?_,?_,?_⟩⟩,?_⟩
 ·have h3:=(h.sm g hg).2.2.2 o ho;have h4:=uu (h.AZ g hg) o ho;exact⟨by omega,by omega,by omega⟩
 ·have h3:=(h.sm g hg).2.2.1;omega
 ·have:=mJ (sO (h.AZ g hg)).2.2.1;omega
 show Pi.cG l<=1000;omega
theorem qkn{q:Int}(h:q=0\/q=1\/q=2):((0<=IntKind.wrap IntKind.u8 (q+1)/\IntKind.wrap IntKind.u8 (q+1)<=((3:Nat):Int))/\(0<=q/\q<=((IntKind.wrap IntKind.u8 (q+1)).toNat:Int)))/\dO (List.drop q.toNat (List.take (IntKind.wrap IntKind.u8 (q+1)).toNat [97,98,99]))=true:=by rcases h with rfl |rfl |rfl<;>exact⟨by decide,by kernel_rfl⟩
theorem qko{k d:Int}(hk:0<=k/\k<5)(hd:0<=d/\d<2):nP (List.drop k.toNat (List.take (k+1+d).toNat [117,118,119,120,121,122]))=true/\(List.drop k.toNat (List.take (k+1+d).toNat ([117,118,119,120,121,122]:List UInt8))).length<=2:=by
 obtain hk:k=0\/k=1\/k=2\/k=3\/k=4:=by omega
 obtain hd:d=0\/d=1:=by omega
 rcases hk with rfl |rfl |rfl |rfl |rfl<;>rcases hd with rfl |rfl<;>exact⟨by kernel_rfl,by decide⟩
theorem Og{i:Int}{l:List ak}(h:bH i l)(hi:i<=1000)(x:av):e9 (cP l x):=by
 have h1:=h.len;have h2:=h.cG;have h3:=wb x l;have hr: ∀r∈cP l x,r.2.2.length<=2/\r.2.1.2.2=0:=λr hr=>by obtain⟨g,hg,o,ho,hk,rfl⟩:=Jc hr;obtain⟨m,hm⟩:=op1 h hg ho;have:=Nx hm hk;exact⟨((h.sm g hg).2.2.2 o ho).1,by rw[this]⟩
 have key: ∀L:List bx,(∀r∈L,r.2.2.length<=2)->JN L<=2*L.length:=λL=>by
  induction L with
  |nil=>intro _;simp[JN]
  |cons r L ih=>
   intro hL;have h4:=ih λr hr=>hL r (.tail _ hr);have h5:=hL r (.head _);have h6:=AN r.2.2;have h7:JN (r::L)=(n0 r.2.2).length+JN L:=by simp[JN]
   rw[h7,zao];omega
 refine⟨by omega,?_,λr h=> ?_⟩
 ·have:=key _ λr h=>(hr r h).1;omega
 have:=hr r h;rw[this.2];exact⟨by omega,by omega,by omega⟩
theorem b7{α:Type}(f:α->D)(o:List α):List.take o.length (o.map f)=o.map f:=zal (by simp)
theorem qhF{l:List ak}{e:List av}(he: ∀y∈e,iw l y)(hs:e.Pairwise λa b=>mh a b=true){q d:Int}(hq:0<=q/\q<(e.length:Int))(hd:0<=d/\d<3):
  (∀y∈(e.drop q.toNat).take ((min (e.length:Int) (q+1+d)).toNat-q.toNat),iw l y)/\((e.drop q.toNat).take ((min (e.length:Int) (q+1+d)).toNat-q.toNat)).Pairwise (λa b=>mh a b=true)/\
   1<=((e.drop q.toNat).take ((min (e.length:Int) (q+1+d)).toNat-q.toNat)).length/\((e.drop q.toNat).take ((min (e.length:Int) (q+1+d)).toNat-q.toNat)).length<=3:=by
 refine⟨λy hy=>he y (zbR (zba hy)),hs.sublist ((zda _ _).trans (List.drop_sublist _ _)),?_,?_⟩
 ·rw[zas,zbe];omega
 rw[zas];omega
section
variable{X:XF}
theorem qhG:FD X 77 Xu:=FD.mk (H:=[]) (hk:=[]) (by kernel_rfl) .nil .nil (by
 intro ps R ae hh;obtain⟨l,n,rfl,rfl,⟨hl,hn⟩,hp⟩:=hh
 (rw[<-qhs];delta fg Zem Z7 ZdX Za Z9 Zw oi wW Zel)
 refine ao (by omega) λc hc=> ?_;have hm:(l.map bV).length=l.length:=zaa ..;rw[hm] at hc⊢;have hq:=uU hn.1 (show 0<c+1 by omega);refine ao (by omega) (aq (by rw[zaO (by omega)];rfl) (A9 (λ_=>hp aB (.inl rfl)) λh=>ao (by omega) ?_));generalize n.tmod (c+1)=q at*
 have bJ:q.toNat<l.length:=by omega
 rw[ax _ _ _ bJ];exact aq (mg _) (hp _ (.inr (zaq bJ))))
theorem qkp:FD X 50 qht:=FD.mk (H:=[(76,qho),(77,Xu),(78,hJn),(32,I8),(79,qg9),(80,qhe)]) (hk:=[]) (by kernel_rfl)
  (.cons qke (.cons qhG (.cons qma (.cons WJ (.cons qj6 (.cons qj7 .nil)))))) .nil (by
 intro ps R ae hh;obtain⟨i,l,v,r,x,rfl,rfl,⟨hl,hi,hx⟩,hp⟩:=hh
 (rw[<-qmb];delta ZW FY fg Q5 Z3 vJ Z7 eX eY e7 eN eO fF vb Zej Za Z9 Zee F4 Z4L Yr Z4N Zei Z4y dn iR Zo l9 e8 cg ct Zek Zed iP iQ Zef Zeg Ze9 nu Ze8 gJ Qs Qu Zeh dq dv N6 Z3N Dm vY jl Zg Ze6 Zeb Xv Zec WQ dV)
 have hL:=hl.known v;have hlen:=hL.len;have lW:=hL.cG;have hq:=uU hx.b.1 (show(0:Int)<3 by decide);have Hm:=qkn (q:=x.b.tmod 3) (by omega);have hk:=uU hx.c.1 (show(0:Int)<5 by decide);have hd:=uU hx.c.1 (show(0:Int)<2 by decide);have hd3:=uU hx.c.1 (show(0:Int)<3 by decide);have huv:=qko hk hd;have hc:=hx.c;have hb:=hx.b;have h0:(aO l v).length<=1000000/\cG (aO l v)<=1000:=by omega
 refine⟨_,true,rfl,rfl,h0,λds hds=>⟨_,false,rfl,rfl,h0,λfs hfs=>ao Hm.1.1 (ao Hm.1.2 ?_)⟩⟩;have hrd: ∀y,(y=aB\/y∈ds)->(y=aB\/iw (aO l v) y):=λy h=>h.imp_right λh=>N7 hL (hds▸h);have hrf: ∀y,(y=aB\/y∈fs)->(y=aB\/iw (aO l v) y):=λy h=>h.imp_right λh=>N7 hL (hfs▸h);have hra: ∀y,(y=aB\/y∈fs++ds)->(y=aB\/iw (aO l v) y):=λy h=>h.elim .inl λh=>(zay.1 h).elim (λh=>hrf y (.inr h)) λh=>hrd y (.inr h);have hdl:ds.length<=1000000:=by rw[hds];have:=n5 true (aO l v);omega
 have xg:fs.length<=1000000:=by rw[hfs];have:=n5 false (aO l v);omega
 have MG:(fs++ds).length<=1000000:=by have:=n5 true (aO l v);have:=n5 false (aO l v);rw[zah,hfs,hds];omega
 have hdp: ∀(Q:av->Prop),(∀y,(y=aB\/iw (aO l v) y)->Q y)-> ∃(m:List av) (n:Int),[P.d (D.sl 3 (List.take ds.length (ds.map bV))),P.d (D.int .u8 x.a)]=[P.d (D.sl 3 (m.map bV)),P.d (D.int .u8 n)]/\EqR [] []/\(m.length<=1000000/\0<=n/\n<=255)/\ ∀y,(y=aB\/y∈m)->Q y:=
  λQ h=>⟨ds,x.a,by rw[b7],rfl,⟨hdl,hx.a⟩,λy hy=>h y (hrd y hy)⟩
 have qcO: ∀y:av,(y.1==(0:Int)&&(y.2.1==(0:Int)&&true)&&(y.2.2==(0:Int)&&true))=(y==aB):=λy=>rD y aB;have dQ: ∀y:av,(y=aB\/iw (aO l v) y)->(!(y==aB))=true->iw (aO l v) y:=λy h h1=>h.resolve_left λe=>by rw[e] at h1;simp at h1
 refine⟨fs,x.a,by rw[b7],rfl,⟨xg,hx.a⟩,λf hf=> ?_⟩;have hf:=hrf f hf;refine A9 (λ_=>hdp _ λy hy=>hp (Ir (fc l v r) y _ true) true λ_=>⟨⟨_,Ny hl hy Hm.2 true⟩,by simp[Ir],by simp[Ir]⟩) λ_=>
  A9 (λ_=>hdp _ λy hy=>hp (Ir (fc l v r) y _ false) true λ_=>⟨⟨_,Ny hl hy Hm.2 false⟩,by simp[Ir],by simp[Ir]⟩) λ_=>
  A9 (λ_=>⟨fs,ds,by rw[b7,b7],rfl,⟨xg,hdl⟩,λa ha=>⟨a,x.c,by rw[b7],rfl,⟨by rw[ha];exact MG,hx.c⟩,λy hy=>hdp _ λz hz=> ?_⟩⟩) λ_=>
  A9 (λ_=>⟨fs,ds,by rw[b7,b7],rfl,⟨xg,hdl⟩,λa ha=>⟨a,x.c,by rw[b7],rfl,⟨by rw[ha];exact MG,hx.c⟩,λy hy=>⟨aO l v,rfl,rfl,hL.smS (by omega),λon t p it xt ht _ _=>⟨t.h,t.g,y,rfl,rfl,?_,λd eC=> ?_⟩⟩⟩⟩) λ_=> ?_
 ·have hy:=hra y (by rw[<-ha];exact hy);rw[qcO];exact hp (Ur y z _) (!(y==aB)) λh=>⟨⟨_,qbi hl (dQ y hy h) hz Hm.2⟩,by simp[Ur],by simp[Ur]⟩
 ·have hR:=hL.right;have hB:=wU (on:=on) (l:=aO l v) hL.AZ _ (zak _);rw[zaj] at hB;rw[ht,hR];have h1:=hB.2.2.1;have h2:=hB.2.2.2;exact⟨by omega,by omega⟩
 ·have hy:=hra y (by rw[<-ha];exact hy);have hd4:=qcA hL (by omega) (on:=on) (g:=t.g) (x:=y);rw[qcO,b7];rw[hL.right] at ht;rw[<-ht,<-eC] at hd4;exact hp (Us y d) (!(y==aB)) λh=>⟨⟨_,qbj hl (dQ y hy h) hd4.1 hd4.2.1 hd4.2.2⟩,by simp[Us],by simp[Us]⟩
 have hes:(aO l v).length<=1000000/\cG (aO l v)<=1000/\e9 (cP (aO l v) f):=⟨h0.1,h0.2,Og hL (by omega) f⟩
 have FM:(Jd (aO l v) f).length<=1000000:=by have:=rn (l:=cP (aO l v) f) _ (zak _);rw[zaj] at this;have:=hes.2.2.2.1;unfold Jd;rw[lb,zaa];omega
 refine A9 (λh4=>A9 (λ_=> ?_) λh=>absurd h4 h) λ_=>A9 (λ_=> ?_) λ_=> ?_
 rotate_left 2
 ·refine⟨_,f,rfl,rfl,hes,λe he=> ?_⟩;rw[qcO];have bS:ae (P.cH [P.d (dC ⟨0,aB,aB,[],false,[],aB,aB,[],[]⟩),P.d (D.bool false)],[]):=hp _ false λh=>by cases h
  refine aA (λ_=>bS) λhf2=>A9 (λ_=>bS) λMv=> ?_;have hfr:iw (aO l v) f:=dQ f hf (by rw[hf2];rfl);have hq2:=uU hx.b.1 (show(0:Int)<(e.length:Int) by omega);have qmy:e.length<=1000000:=by rw[he];exact FM
  have hct:=qhF (e:=e) (λy hy=>AO hL (he▸hy)) (by rw[he];exact Qw _ _) hq2 hd3;generalize x.b.tmod (e.length:Int)=q at*
  generalize x.c.tmod 3=d at*
  refine ao (by omega) (aq (by rw[zaO (by omega)];rfl) (ao (by omega) (ao (by omega) (ao (by omega) (ao (by omega) (ao (by omega) ?_))))));rw[<-List.map_drop,<-List.map_take];exact hp (qbh f _) true λ_=>⟨⟨_,qbl hl hfr hct.1 hct.2.1 hct.2.2.1 hct.2.2.2⟩,by simp[qbh],hct.2.2.2⟩
 all_goals
  refine ao (by omega) ⟨_,f,rfl,rfl,hes,λe he=>⟨e,x.b,by rw[b7],rfl,⟨by rw[he];exact FM,hx.b⟩,λa ha=> ?_⟩⟩;rw[qcO];have ha:a=aB\/iw (aO l v) a:=ha.imp_right λh=>AO hL (he▸h);generalize x.c.tmod 5=k at*
  generalize x.c.tmod 2=d at*
  refine ao (by omega) (ao (by omega) (ao (by omega) (ao (by omega) (ao (by omega) ?_))));exact hp (qbg (fc l v r) f a _) (!(f==aB)) λh=>⟨⟨_,qbk hl (dQ f hf h) ha huv.1⟩,huv.2,by simp[qbg]⟩)
theorem jL.all{i:Int}{l:List ak}{K:List (List Int)}(h:py i l K){r:Int}(h1:1<=r)(h2:r<=3): ∀(M:List (List Int)) (v:List Int),jL i K r v->(∀w∈M,w∈K)->jL i K r (mgA v M)
 | [],_,hv,_=>hv
 |w::M,v,hv,hM=>jL.all h h1 h2 M (mZ v w) (jL.merge h h1 h2 hv (hM w (.head _))) λx hx=>hM x (.tail _ hx)
theorem XH: ∀(M:List (List Int)) (v:List Int),cO v=true->(∀w∈M,cO w=true)->cO (mgA v M)=true
 | [],_,hv,_=>hv
 |w::M,v,hv,hM=>XH M (mZ v w) (Dc hv (hM w (.head _))) λx hx=>hM x (.tail _ hx)
theorem qcP(v:List Int):cw PR 31 (D.sl 1 (aY v))=true:=by kernel_rfl
theorem qcQ:LD X 29 5 (ah (aK 29 5) qhv):=LD.idx (H:=[(47,KN)]) (hk:=[]) (by kernel_rfl) (by kernel_rfl) (.cons Ts .nil) .nil
 (A:=List ak×List (List Int)×cj×Int×List Int) (B:=List Int) (λa v i=>dn5 a.1 a.2.1 a.2.2.1 a.2.2.2.1 v i) (λa=>a.2.1.length)
 (λa i v=>L2 a.2.2.2.2 a.2.1/\v=mgA a.2.2.2.2 (a.2.1.take i))
 (λa z=>z=(.exit 0,⟨120,[(2,.ref 0 0 0),(3,.ref 1 0 0),(4,.ref 2 0 0),(5,iD a.2.2.2.1),(6,vD (mgA a.2.2.2.2 a.2.1))],[(0,⟨0,none,bxW a.1 a.2.1⟩),(1,⟨0,none,qhu a.2.2.1⟩),(2,⟨0,none,.box 62 [.sl 3 0 0,.sl 4 0 0]⟩),(3,⟨0,none,pb false []⟩),(4,⟨0,none,arV false []⟩)]⟩))
 (by
  rintro⟨l,K,x,r,v0⟩ v i ae h0 bK aQ ⟨hc,hv⟩ hn aT
  try dsimp only at*
  (rw[<-qd4];delta Rf Gn cg ct Rn Zep ZA ZT Zk Zm B6 tj iN ti bP JI Za Z9 Zw Zo Zx wT Zt)
  have e1:D.nth (K.map λv=>D.sl 1 (aY v)) i.toNat=D.sl 1 (aY K[i.toNat]):=ax _ _ _ aQ;have dt:0<=i/\i<((K.map λv=>D.sl 1 (aY v)).length:Int):=by rw[zaa];exact⟨h0,bK⟩
  have hvo:cO v=true:=by rw[hv];exact XH _ _ hc.2.1 λw hw=>hc.2.2 w (zba hw)
  have hwo:=hc.2.2 _ (zaq aQ);have jS:mgA v0 (K.take (i.toNat+1))=mZ v K[i.toNat]:=by rw[hv];unfold mgA;rw[zae aQ,za7];rfl
  have hl1:=mJ hvo;have xV:=mJ hwo;have hK:=hc.1;rw[e1];generalize K[i.toNat]=w at*
  refine bn dt.2 (ao dt (aq (qcP _) ⟨v,w,rfl,rfl,⟨?_,?_⟩,ao (by omega) (hn _ ⟨hc,jS.symm⟩)⟩))
  ·unfold jd;omega
  unfold jd;omega)
 (by
  rintro⟨l,K,x,r,v0⟩ v i ae hi ⟨hc,hv⟩ aT
  try dsimp only at*
  (rw[<-qd4];delta Rf Gn cg ct Rn Zep ZA ZT Zk Zm B6 tj iN ti bP JI Za Z9 Zw Zo Zx wT Zt)
  refine jU (by rw[zaa];omega) (aT _ (λh=>by cases h) ?_);rw[hv,zaj];rfl)
 (by rintro s ae ⟨l,K,x,r,v,rfl,hc,hp⟩;refine⟨(l,K,x,r,v),v,rfl,⟨hc,rfl⟩,?_⟩;rintro z rfl;exact hp _ rfl)
theorem qhH:FD X 29 Oa:=FD.mk (H:=[(48,hKn),(13,Yj),(46,LH),(49,Xs),(50,qht)]) (hk:=[(5,ah (aK 29 5) qhv)]) (by kernel_rfl)
  (.cons ql9 (.cons HS (.cons qcb (.cons qhq (.cons qkp .nil))))) (.cons qcQ .nil) (by
 intro ps R ae hh;obtain⟨i,l,K,x,rfl,rfl,⟨⟨hl,hK,h0,hi⟩,hx⟩,hp⟩:=hh
 (rw[<-qmc];delta Xw Zes Gn QE Zey ZeP ZeO UF xv xw xx A1 BY A2 BZ B0 yf A3 A4 A5 A6 A7 vQ vR vS xy E1 Z7 ZeL lX Xx Zk Zl cg dn LS Zc ZeI gi L3 ZeH l4 Zex ZeG ZA ZeE ZeD ZeA Za Z9 Zb Zez JH Z9o Jg Zm Zew Zev Ro Xv Zw ct jl Zce Zet ZJ ZK Zn iR Zo Zx wT B6 Rf Rn Zep pU Rp Rq tj iN ti bP JI Zer)
 have hr:=uU hx.r.1 (show(0:Int)<3 by decide);have hxr:=hx.r;have hxa:=hx.a;have h3:=hK.len;have rv:=hl.len;generalize x.r.tmod 3=q at*
 have uW:(1+q-1).toNat=q.toNat:=by omega
 have hqn:q.toNat<K.length:=by omega
 have e1:D.nth (K.map λv=>D.sl 1 (aY v)) q.toNat=D.sl 1 (aY K[q.toNat]):=ax _ _ _ hqn;have hS:=jL.start hK (r:=1+q) (by omega) (by omega);have hv0:K.getD (1+q-1).toNat []=K[q.toNat]:=by rw[uW,zad,zac hqn];rfl
 rw[hv0] at hS;simp only[zbk,zaF,zaa,zao,zat,uW,e1];have u0:D.dS (D.sl 1 (aY K[q.toNat]))=aY K[q.toNat]:=rfl;rw[u0];have hNo:DA i l x l K:=⟨hl.mono,hK.mono,λ_ h=>h⟩
 have bS:=hp l K hNo;have hMo: ∀v g,jL i K (1+q) v->Ai l v (1+q) g->(x.what.tmod 8≠7->g.bs=(0,0))->DA i l x (l++[g]) (K.set q.toNat (bk (gQ v (1+q) (eK v (1+q)+1)))):=λv g hv hg hz=>by
  have:=hg.qfE hl hK ⟨h0,by omega⟩ (by omega) (by omega) hv;rw[uW] at this;refine⟨this.1,this.2,λh7 hy y hy2=> ?_⟩;rcases zay.1 hy2 with h |h
  ·exact hy y h
  rw[za0.1 h];exact hz h7
 have hEq: ∀(g:ak) (u:List Int) (z:List D),D.agg [D.sl 7 ((l++[g]).map aR),D.sl 1 ((K.set q.toNat u).map λv=>D.sl 1 (aY v))]=D.agg [D.sl 7 (List.take (l.length+1) (List.take l.length (l.map aR)++[aR g])),D.sl 1 (List.take K.length ((K.map λv=>D.sl 1 (aY v)).set q.toNat (D.aP (D.sl 1 z) [D.sl 1 (aY u)])))]:=λg u z=>by simp[D.aP,zcd,zal]
 refine ao (by omega) (ao (by omega) (ao (by omega) (ao (by omega) (aq (qcP _) (aA (λ_=>⟨l,K,x,1+q,K[q.toNat],rfl,⟨by omega,hS.vec.1,λw hw=>(hK.vec w hw).1⟩,λv hv=> ?a⟩) λ_=> ?b)))))
 case' a=>
  replace hS:jL i K (1+q) v:=by rw[hv];exact jL.all hK (by omega) (by omega) K _ hS λ_ h=>h
  clear hv
 case' b=>generalize K[q.toNat]=v at*
 all_goals
  have hvl:=mJ hS.vec.1;have ha:=Ag hS.vec.1 (1+q);have hb:=hS.vec.2 (1+q);have hm:=hl.fj h0 v;have tU:=(hl.known v).len;have hrk:aI K.length 24=true:=bN (by omega) (by omega);have hrl:aI l.length 88=true:=bN (by omega) (by omega);have qkq:aI (l.length+1) 88=true:=bN (by omega) (by omega);have hwo:=λg=>hMo v g hS;refine⟨l,v,rfl,rfl,⟨by omega,by omega⟩,λo ho=>⟨v,1+q,rfl,rfl,by omega,ao (by omega) ⟨o,by rw[b7],rfl,by rw[ho];omega,λt ht=>ao (by rw[ho] at ht;omega) (A9 (λh7=> ?_) λh7=> ?_)⟩⟩⟩
  ·refine A9 (λ_=>bS) λdQ=> ?_;have hq2:=uU hxa.1 (show(0:Int)<(o.length:Int) by omega);generalize x.a.tmod (o.length:Int)=p at*
   have hpn:p.toNat<o.length:=by omega
   have e2:D.nth (o.map aR) p.toNat=aR o[p.toNat]:=ax _ _ _ hpn;rw[e2];have hym:o[p.toNat]∈aO l v:=ho▸zaq hpn;generalize o[p.toNat]=y at*
   refine ao (by omega) (aq (by rw[zaO (by omega)];rfl) (ao (by omega) (ao hpn (aq (fh _) ⟨v,1+q,_,rfl,rfl,⟨by omega,by omega,by omega⟩,λw hw=>aq (by rw[hrk];rfl) (ao (by omega) (ao (by omega) ?_))⟩))))
   try rw[uW,e1]
   refine ao hqn (aq (qcP _) (aq (by rw[hrl];rfl) (aq (by rw[qkq];simp) ?_)));rw[hw];have hg:=hp _ _ (hwo ⟨fc l v (1+q),eK v (1+q)+1,v,y.s,[]⟩ ⟨rfl,rfl,rfl,.inl ⟨y,hym,rfl,rfl⟩⟩ λh=>absurd h7 h);refine Eq.mp (congrArg (λz=>ae (P.d z,[])) ?_) hg;rw[ht,ho];exact hEq _ _ _
  refine⟨i,l,v,1+q,x,by rw[b7,ho,ht,ho];rfl,rfl,⟨hl,⟨h0,hi⟩,hx⟩,λu b hu=>aA (λ_=>bS) λcu=>⟨v,1+q,_,rfl,rfl,⟨by omega,by omega,by omega⟩,λw hw=>aq (by rw[hrk];rfl) (ao (by omega) (ao (by omega) ?_))⟩⟩;obtain⟨⟨m,D4⟩,hu2,hu3⟩:=hu (by simpa using cu)
  try rw[uW,e1]
  refine ao hqn (aq (qcP _) (aq (by rw[hrl];rfl) (aq (by rw[qkq];simp) ?_)));rw[hw];have hg:=hp _ _ (hwo ⟨fc l v (1+q),eK v (1+q)+1,v,(0,0),[u]⟩ ⟨rfl,rfl,rfl,.inr ⟨rfl,u,m,rfl,D4,hu2,hu3⟩⟩ λ_=>rfl);refine Eq.mp (congrArg (λz=>ae (P.d z,[])) ?_) hg;rw[ht,ho];exact hEq _ _ _)
theorem bH.le{i j:Int}{l:List ak}(h:bH i l)(pH:i<=j):bH j l:=⟨h.AZ,h.nd,λg hg=>by have:=h.sm g hg;exact⟨this.1,by omega,this.2.2⟩,by have:=h.len;omega⟩
theorem qcR(x:cj):cw PR 41 (oa x)=true:=by kernel_rfl
def XI(m:List cj)(b:List ak×List (List Int))(i:Int):S:=if i=0 then pT m else hi3 m b.1 b.2 i
theorem qcS:LD X 11 3 (ah (aK 11 3) qhw):=LD.idx (H:=[(29,Oa)]) (hk:=[]) (by kernel_rfl) (by kernel_rfl) (.cons qhH .nil) .nil
 (A:=List cj) (B:=List ak×List (List Int)) XI (λm=>min m.length 16)
 (λm i b=>AQ m/\(i=0->b=([],[[],[],[]]))/\WOk i b.1 b.2/\((∀x∈m,x.what.tmod 8≠7)-> ∀y∈b.1,y.bs=(0,0)))
 (λm z=>(z=(.exit 0,⟨25,[(3,.ref 0 0 0)],[(0,⟨0,none,.box 62 [.d .fk,.sl 1 0 3]⟩),(1,⟨0,none,arV false [[],[],[]]⟩)]⟩))\/ ∃l K,DB m l/\z=(.exit 0,⟨25,[(3,.ref 0 0 0)],[(0,⟨0,none,bxW l K⟩)]⟩))
 (by
  rintro m ⟨l,K⟩ i ae h0 bK aQ ⟨hc,hb,hw,hz⟩ hn aT
  try dsimp only at*
  have Y6:i<m.length:=by omega
  have hmn:i.toNat<m.length:=by omega
  have e1:D.nth (m.map oa) i.toNat=oa m[i.toNat]:=ax _ _ _ hmn;have hx:=hc.2 _ (zaq hmn);have dt:0<=i/\i<((m.map oa).length:Int):=by rw[zaa];exact⟨h0,Y6⟩
  have Pc: ∀l' K',DA i l m[i.toNat] l' K'->ae (.normal,hi3 m l' K' (i+1)):=λl' K' h=>by
   have QN:((i.toNat+1:Nat):Int)=i+1:=by omega
   have:=hn (l',K') ⟨hc,λh=>by omega,by rw[QN];exact⟨h.1,h.2.1,by omega,by omega⟩,λhh=>h.2.2 (hh _ (zaq hmn)) (hz hh)⟩;unfold XI at this;rw[zan (by omega)] at this;exact this
  have hwi:WOk i l K:=by rw[show((i.toNat:Nat):Int)=i by omega] at hw;exact hw
  unfold XI;by_cases pT:i=0
  ·rw[zap pT];subst pT;have hb:=hb rfl;cases hb
   (rw[<-qd6];delta NX ZeW bP cE JB Gn cg ct Rn Zg L4 Zo Xx Ro ZeV Xy)
   have e2:D.nth (m.map oa) 0=oa m[Int.toNat 0]:=e1;rw[e2];refine bn dt.2 (ao dt (aq (qcR _) ⟨0,[],[[],[],[]],m[Int.toNat 0],rfl,rfl,⟨hwi,hx⟩,λl' K' h=>Pc l' K' h⟩))
  rw[zan pT]
  (rw[<-qd5];delta bP cE JB Gn cg ct Rn ZA tq L4 Za Z9 Zw Zo Xx Zt Ob ZeU Ro Xy ZeR;rw[e1])
  exact bn dt.2 (bn (by omega) (ao dt (aq (qcR _) ⟨i,l,K,m[i.toNat],rfl,rfl,⟨hwi,hx⟩,λl' K' h=>ao (by omega) (Pc l' K' h)⟩))))
 (by
  rintro m ⟨l,K⟩ i ae hi ⟨hc,hb,hw,hz⟩ aT
  try dsimp only at*
  unfold XI;by_cases pT:i=0
  ·rw[zap pT]
   (rw[<-qd6];delta NX ZeW bP cE JB Gn cg ct Rn Zg L4 Zo Xx Ro ZeV Xy)
   exact jU (by rw[zaa];omega) (aT _ (λh=>by cases h) (.inl rfl))
  rw[zan pT]
  (rw[<-qd5];delta bP cE JB Gn cg ct Rn ZA tq L4 Za Z9 Zw Zo Xx Zt Ob ZeU Ro Xy ZeR)
  have hH:DB m l:=⟨hw.1.le (by omega),hz⟩
  have Ys:=aT _ (λh=>by cases h) (.inr ⟨l,K,hH,rfl⟩);exact cr (λh1=>cr (λh2=>by rw[zaa] at h1;omega) λ_=>Ys) λ_=>Ys)
 (by
  rintro s ae ⟨m,rfl,hc,h1,h2⟩;refine⟨m,([],[[],[],[]]),by unfold XI;rw[zap rfl],⟨hc,λ_=>rfl,⟨Ul.1,Ul.2,by decide,by decide⟩,λ_ y hy=>by cases hy⟩,?_⟩;rintro z (rfl | ⟨l,K,h,rfl⟩)
  ·exact h1
  exact h2 l K h)
theorem qkr:FD X 11 qhx:=FD.mk (H:=[]) (hk:=[(3,ah (aK 11 3) qhw)]) (by kernel_rfl) .nil (.cons qcS .nil) (by
 intro ps R ae hh;obtain⟨m,rfl,rfl,hs,h1,h2⟩:=hh
 (rw[<-qkf];delta cg ct Rf Z72 ZY NX ZeW Z7 K6 bP cE L4)
 exact⟨m,rfl,hs,h1,λl _ h=>h2 l h⟩)
end
theorem XJ{b:Bool}{x:av}{l:List bc}{k:Nat}(h:k<l.length):JP b x (l.take (k+1))=JP b x (l.take k)++goO b x l[k]:=by unfold JP;rw[zae h,za9];simp
theorem L9{on:List ay}{x:av}{l:List ak}{i:Nat}(h:i<l.length):iT (l.take (i+1)) on x=iT (l.take i) on x++JP (decide (l[i].s∈on)) x l[i].ops:=by unfold iT;rw[zae h,za9];simp
theorem qcT{b:Bool}{x:av}{o:bc}{n:Nat}(h:o.elems.length<=n):(goO b x o).length<=n:=by
 unfold goO;split
 ·exact h
 exact za1 _
theorem FI{b:Bool}{x:av}{n:Nat}: ∀l:List bc,(∀o∈l,o.elems.length<=n)->(JP b x l).length<=n*l.length
 | [],_=>by simp[JP]
 |o::l,h=>by
  have h1:=qcT (b:=b) (x:=x) (h o (.head _));have h2:=FI (b:=b) (x:=x) l λy hy=>h y (.tail _ hy);unfold JP at*
  rw[zbA,zah,zao,Nat.mul_add,zdn];omega
theorem wc{on:List ay}{x:av}{n:Nat}: ∀l:List ak,(∀g∈l,∀o∈g.ops,o.elems.length<=n)->(iT l on x).length<=n*cG l
 | [],_=>by simp[iT]
 |g::l,h=>by
  have h1:=FI (b:=decide (g.s∈on)) (x:=x) g.ops (h g (.head _));have h2:=wc (on:=on) (x:=x) l λy hy=>h y (.tail _ hy);unfold iT at*
  rw[zbA,zah,fQ,Nat.mul_add];omega
section
variable{X:XF}
theorem XK:LD X 60 6 (ah (aK 60 6) Xf):=LD.idx (H:=[(42,Vs)]) (hk:=[]) (by kernel_rfl) (by kernel_rfl) (.cons qdC .nil) .nil
 (A:=List ak×List ay×av×List av×Int×ak) (B:=List av) (λa o k=>Xd a.1 a.2.1 a.2.2.1 o a.2.2.2.2.1 k) (λa=>a.2.2.2.2.2.ops.length)
 (λa k o=>(((0<=a.2.2.2.2.1/\a.2.2.2.2.1<a.1.length)/\a.2.1.length<=1000000)/\D.nth (a.1.map aR) a.2.2.2.2.1.toNat=aR a.2.2.2.2.2/\(a.2.2.2.1.length<=100000000/\a.2.2.2.2.2.ops.length<=1000)/\ ∀o∈a.2.2.2.2.2.ops,o.elems.length<=2000)/\o=a.2.2.2.1++JP (decide (a.2.2.2.2.2.s∈a.2.1)) a.2.2.1 (a.2.2.2.2.2.ops.take k))
 (λa z=>z=(.exit 2,go8 a.1 a.2.1 a.2.2.1 (a.2.2.2.1++JP (decide (a.2.2.2.2.2.s∈a.2.1)) a.2.2.1 a.2.2.2.2.2.ops) a.2.2.2.2.1))
 (by
  rintro⟨l,on,x,o0,i,g⟩ o k ae h0 tU du ⟨⟨hb,hg,hl,he⟩,ho⟩ hn aT
  try dsimp only at*
  (rw[<-Xe];delta fg Bf eX eY e7 eN eO mH nt ZdE Zk Zm rk JJ fF ZdD ZA ZQ bP qN dq kC rj cg ct de Za Z9 Zw ZdF Qs Zt gT jV oi Fu dv kQ Zo iP iQ nb jy la pz pA tA IJ ZcM Fq Fs Ri Ft LL dM gi iC)
  have dt:0<=i/\i<((l.map aR).length:Int):=by rw[zaa];exact hb.1
  have u6:D.dS (D.ar (aR g) 6)=g.ops.map dC:=rfl;have e1:D.nth (g.ops.map dC) k.toNat=dC g.ops[k.toNat]:=ax _ _ _ du;have jS:=XJ (b:=decide (g.s∈on)) (x:=x) du;have k9:o.length<=200000000:=by have h1:=FI (b:=decide (g.s∈on)) (x:=x) (g.ops.take k.toNat) λo ho=>he o (zba ho);rw[zas] at h1;have h2:2000*min k.toNat g.ops.length<=2000*1000:=Nat.mul_le_mul_left _ (by omega);rw[ho,zah];omega
  have hye:=he _ (zaq du);rw[hg,u6,e1];have Gm:0<=k/\k<((g.ops.map dC).length:Int):=by rw[zaa];exact⟨h0,tU⟩
  generalize g.ops[k.toNat]=y at*
  have pn:=fh g;have sk:=IE y;have c0:D.aj (D.ar (dC y) 0)=y.kind:=rfl;have c1:(D.aj (D.ar (dC y) 1)==x.1&&(D.aj (D.ar (dC y) 2)==x.2.1&&true)&&(D.aj (D.ar (dC y) 3)==x.2.2&&true))=(y.node==x):=rD y.node x;have c2:D.dS (D.ar (dC y) 17)=y.elems.map bV:=rfl;rw[c0,c1,c2];have bS: ¬(y.kind=4/\y.node=x/\decide (g.s∈on)=true)->o0++JP (decide (g.s∈on)) x (g.ops.take (k.toNat+1))=o:=λh=>by
   rw[jS,ho];have:goO (decide (g.s∈on)) x y=[]:=by unfold goO;rw[zan h]
   rw[this,zaV]
  have cv:y.kind=4->y.node=x->decide (g.s∈on)=true->o0++JP (decide (g.s∈on)) x (g.ops.take (k.toNat+1))=o++y.elems:=λh1 h2 h3=>by
   rw[jS,ho,zaM];have:goO (decide (g.s∈on)) x y=y.elems:=by unfold goO;rw[zap ⟨h1,h2,h3⟩]
   rw[this]
  have XL: ¬(y.kind=4/\y.node=x/\decide (g.s∈on)=true)->ae (.normal,Xd l on x o i (k+1)):=λh=>hn o ⟨⟨hb,hg,hl,he⟩,(bS h).symm⟩;refine ao dt (aq pn (bn Gm.2 (ao dt (aq pn (ao Gm (aq sk (A9 (λhk=>aA (λhx=>ao dt (aq pn ⟨on,g.s,rfl,rfl,hb.2,λb hbb=>aA (λA8=> ?_) λw6=>ao (by omega) (XL λh=>by rw[hbb,h.2.2] at w6;cases w6)⟩)) λhx=>ao (by omega) (XL λh=>by rw[h.2.1] at hx;simp at hx)) λhk=>ao (by omega) (XL λh=>hk h.1))))))));have hy:=hn (o++y.elems) ⟨⟨hb,hg,hl,he⟩,(cv hk (by simpa using hx) (by rw[<-hbb];exact A8)).symm⟩;simp only[Xd,fS,zah,zau] at hy;have D4:(y.elems.map bV).length=y.elems.length:=zaa ..;rw[b7,D4];refine aq ?_ (ao (by omega) hy);rw[zab];exact⟨by simp,bN (by omega) (by omega)⟩)
 (by
  rintro⟨l,on,x,o0,i,g⟩ o k ae hk ⟨⟨hb,hg,hl,he⟩,ho⟩ aT
  try dsimp only at*
  (rw[<-Xe];delta fg Bf eX eY e7 eN eO mH nt ZdE Zk Zm rk JJ fF ZdD ZA ZQ bP qN dq kC rj cg ct de Za Z9 Zw ZdF Qs Zt gT jV oi Fu dv kQ Zo iP iQ nb jy la pz pA tA IJ ZcM Fq Fs Ri Ft LL dM gi iC)
  have dt:0<=i/\i<((l.map aR).length:Int):=by rw[zaa];exact hb.1
  have u6:D.dS (D.ar (aR g) 6)=g.ops.map dC:=rfl;rw[hg,u6];refine ao dt (aq (fh g) (jU (by rw[zaa];omega) (aT _ (λh=>by cases h) ?_)));rw[ho,zaj])
 (by rintro s ae ⟨l,on,x,o,i,g,hg,rfl,⟨h1,h2,h3,h4⟩,hp⟩;refine⟨(l,on,x,o,i,g),o,rfl,⟨⟨⟨h1,h2⟩,hg,h3,h4⟩,by simp[JP]⟩,?_⟩;rintro z rfl;exact hp _ rfl)
theorem qcU:LD X 60 3 (ah (aK 60 3) qhf):=LD.idx (H:=[]) (hk:=[(6,ah (aK 60 6) Xf)]) (by kernel_rfl) (by kernel_rfl) .nil (.cons XK .nil)
 (A:=List ak×List ay×av) (B:=List av) (λa o i=>go8 a.1 a.2.1 a.2.2 o i) (λa=>a.1.length)
 (λa i o=>QA a.1 a.2.1/\o=iT (a.1.take i) a.2.1 a.2.2)
 (λa z=>z=(.exit 0,⟨58,[(7,.sl 0 0 (iT a.1 a.2.1 a.2.2).length)],[(0,⟨0,none,fS false (iT a.1 a.2.1 a.2.2)⟩)]⟩))
 (by
  rintro⟨l,on,x⟩ o i ae h0 bK aQ ⟨hc,ho⟩ hn aT
  try dsimp only at*
  (rw[<-Xg];delta fg Bf r7 fF pC ZA pW Za Z9 Zw dv kQ dn l4 eX eY e7 eN eO mH nt ZdE Z7 Yt Zk Zm rk ZdD bP qN dq kC rj cg ct de gi nv)
  have jS:=L9 (on:=on) (x:=x) aQ;have h1:=wc (on:=on) (x:=x) (n:=2000) (l.take i.toNat) λg hg=>hc.2 g (zba hg);rw[<-ho] at h1;have h2:=nS l (i.toNat+1);have h3:=oZ aQ;have h4:=hc.1;refine bn (by rw[zaa];exact bK) ⟨l,on,x,o,i,l[i.toNat],ax _ _ _ aQ,rfl,⟨⟨h0,bK⟩,by omega,⟨by omega,by omega⟩,hc.2 _ (zaq aQ)⟩,λo' ff=>ao (by omega) (hn o' ⟨hc,?_⟩)⟩;rw[ff,ho,jS])
 (by
  rintro⟨l,on,x⟩ o i ae hi ⟨hc,ho⟩ aT
  try dsimp only at*
  (rw[<-Xg];delta fg Bf r7 fF pC ZA pW Za Z9 Zw dv kQ dn l4 eX eY e7 eN eO mH nt ZdE Z7 Yt Zk Zm rk ZdD bP qN dq kC rj cg ct de gi nv)
  refine jU (by rw[zaa];omega) (aT _ (λh=>by cases h) ?_);rw[ho,zaj])
 (by rintro s ae ⟨l,on,x,rfl,hc,hp⟩;refine⟨(l,on,x),[],rfl,⟨hc,rfl⟩,?_⟩;rintro z rfl;exact hp _ rfl)
theorem qhI:FD X 60 Xh:=FD.mk (H:=[]) (hk:=[(3,ah (aK 60 3) qhf)]) (by kernel_rfl) .nil (.cons qcU .nil) (by
 intro ps R ae hh;obtain⟨l,on,x,rfl,rfl,hs,hp⟩:=hh
 (rw[<-qj9];delta fg Bf r7 fF pC JK eX eY e7 eN eO mH nt Z7 tu rE bP qN dq kC rj cg ct de ZdG)
 exact⟨l,on,x,rfl,hs,λo ho=>hp o ho⟩)
theorem Oh(x y:av):r3 x.1 x.2.1 x.2.2 y.1 y.2.1 y.2.2>0↔mh y x=true:=by
 unfold mh;simp only[zai,r3,pL,MV,qF]
 (repeat' split)<;>omega
theorem XM:LD X 121 8 (ah (aK 121 8) Xi):=LD.ins (H:=[(88,gG)]) (hk:=[]) (by kernel_rfl) (by kernel_rfl) (.cons lK .nil) .nil
 (A:=List bB×av×Nat×Int) (α:=bB) (λa o k=>qcJ a.1 a.2.1 o a.2.2.1 a.2.2.2 k) gtE (λa=>a.2.2.1) (λ_=>True) (λa o=>(.exit 2,⟨67,[(0,n9 a.1),(3,.ref 0 0 0),(5,.sl 1 0 a.2.2.1),(6,iD a.2.2.2)],[(0,⟨0,none,pe a.2.1⟩),(1,⟨0,none,gK false o⟩)]⟩)) (λ_ _ h=>by cases h)
 (by
  rintro⟨l,v,n,i⟩ o k ae _ h0 xt k9 hk hz bS cv
  try dsimp only at*
  subst xt
  (rw[<-qhg];delta mN xd eX eY e7 eN eO mH nt Zk Zm ZS Bg JD bP cE LZ ZdM Zt vf YO YP ZdI ZG Zc QB ZdJ ZdK Zo Zl AV Zdw uZ Za Z9 Zb Bs LU l8 ZF)
  refine cr (λhp=> ?_) λhp=>hz (by omega);have ft:k.toNat-1<o.length:=by omega
  have ek:(k-1).toNat=k.toNat-1:=by omega
  have e1:D.nth (o.map dX) k.toNat=dX o[k.toNat]:=ax _ _ _ hk;have e2:D.nth (o.map dX) (k.toNat-1)=dX o[k.toNat-1]:=ax _ _ _ ft;have bS:=bS hp;have cv:=cv hp;have vZ:=jj dX o k.toNat o[k.toNat] o[k.toNat-1];have e3: ∀z,D.nth ((o.map dX).set k.toNat z) (k.toNat-1)=dX o[k.toNat-1]:=λz=>by unfold D.nth;rw[zad,za3 (by omega)];simp[ft]
  rw[ek,e1,e2];simp only[e3];generalize o[k.toNat]=x at*
  generalize o[k.toNat-1]=y at*
  simp only[zaa,zbj] at cv⊢;have v7:0<=k/\k<(o.length:Int):=⟨h0,by omega⟩
  have v8:0<=k-1/\k-1<(o.length:Int):=⟨by omega,by omega⟩
  have hf:(-9223372036854775808:Int)<=k-1/\k-1<=9223372036854775807:=by omega
  refine ao v7 (ao hk (aq (sZ _) (ao hf (ao v8 (ao ft (aq (sZ _) ⟨x.1.1,x.1.2.1,x.1.2.2,y.1.1,y.1.2.1,y.1.2.2,rfl,rfl,cr (λh=> ?_) λh=>bS (by rw[<-zaQ];exact λh2=>h ((Oh x.1 y.1).2 h2))⟩))))));have hy:=cv ((Oh x.1 y.1).1 h);simp only[qcJ,gK] at hy;rw[<-vZ] at hy;refine ao hf (ao hf (ao v8 (ao ft (aq (sZ _) (ao v7 (ao hk (aq (sZ _) (ao v7 (ao hk (aq (sZ _) (ao v8 (ao ft (aq (sZ _) (ao hf ?_))))))))))))));exact hy)
 (by rintro s ae ⟨l,v,o,x,n,i,k,rfl,⟨hk,hn,ho⟩,hp⟩;refine⟨(l,v,n,i),o,x,k,rfl,hk,trivial,⟨hn.symm,ho⟩,?_⟩;have:=hp _ rfl;rw[be8,jN,<-hn] at this;exact this)
theorem qcV:LD X 121 3 (ah (aK 121 3) qhh):=LD.idx (H:=[]) (hk:=[(8,ah (aK 121 8) Xi)]) (by kernel_rfl) (by kernel_rfl) .nil (.cons XM .nil)
 (A:=List bB×av) (B:=List bB) (λa o i=>be8 a.1 a.2 o i) (λa=>a.1.length) (λa i o=>a.1.length<=1000000/\o=jm (a.1.take i) a.2)
 (λa x=>x=(.exit 0,⟨67,[(5,.sl 0 0 (jm a.1 a.2).length)],[(0,⟨0,none,gK false (jm a.1 a.2)⟩)]⟩))
 (by
  rintro⟨l,v⟩ o i ae h0 bK aQ ⟨hm,ho⟩ hn aT
  try dsimp only at*
  (rw[<-Xk];delta mN xd p8 Ca mr vg Qy N8 Zk Zm o5 JD Zt vf YO YP ZdI FF ZdQ eX eY e7 eN eO mH nt ZS bP cE LZ Za Z9 Xj WY ZA ZL Zw ZdO Bs ZdN)
  have k9:o.length<=i.toNat:=by rw[ho];unfold jm;rw[lb];refine zaE (zaG _ _) ?_;rw[zas];omega
  have e1:D.nth (l.map dX) i.toNat=dX l[i.toNat]:=ax _ _ _ aQ;have iv:jm (l.take (i.toNat+1)) v=if l[i.toNat].2.1=v then cD gtE o l[i.toNat] else o:=by
   unfold jm at ho⊢;rw[zae aQ,zbw];split
   next hc=>rw[zbU (by simpa using hc),zcs,sU,ho]
   rename_i hc;rw[zbV (by simpa using hc),zcs,zaV,ho]
  have bZ:=λo' (ff:o'=if l[i.toNat].2.1=v then cD gtE o l[i.toNat] else o)=>hn o' ⟨hm,by rw[iv];exact ff⟩;generalize l[i.toNat]=d at*
  rw[e1];have t1:List.take o.length (o.map dX)++[dX d]=(o++[d]).map dX:=bO dX o d;have c1:(D.aj (D.ar (dX d) 3)==v.1&&(D.aj (D.ar (dX d) 4)==v.2.1&&true)&&(D.aj (D.ar (dX d) 5)==v.2.2&&true))=(d.2.1==v):=rD d.2.1 v;have dt:0<=i/\i<((l.map dX).length:Int):=by rw[zaa];exact⟨h0,bK⟩
  rw[c1];refine bn dt.2 (ao dt (aq (sZ _) (aA (λhx=>ao (by omega) (bZ o (by rw[zan (by simpa using hx)]))) λhx=>ao dt (aq (sZ _) ?_))));have uX:d.2.1=v:=by simpa using hx
  simp only[zaa,zao,zat,zaF];refine aq ?_ (ao (by omega) ⟨l,v,o,d,o.length+1,i,((o.length+1:Nat):Int)-1,congrArg (λz=>(⟨67,[(0,n9 l),(3,.ref 0 0 0),(5,.sl 1 0 (o.length+1)),(6,iD i),(7,iD (((o.length+1:Nat):Int)-1))],[(0,⟨0,none,pe v⟩),(1,⟨0,none,.arr 112 false z⟩)]⟩:S)) t1,⟨by omega,rfl,by omega⟩,λo' ff=>ao (by omega) (bZ o' (by rw[zap uX];exact ff))⟩);rw[zab];exact⟨by simp,cd (by omega) (by omega)⟩)
 (by
  rintro⟨l,v⟩ o i ae hi ⟨hm,ho⟩ aT
  try dsimp only at*
  (rw[<-Xk];delta mN xd p8 Ca mr vg Qy N8 Zk Zm o5 JD Zt vf YO YP ZdI FF ZdQ eX eY e7 eN eO mH nt ZS bP cE LZ Za Z9 Xj WY ZA ZL Zw ZdO Bs ZdN)
  refine jU (by rw[zaa];omega) (aT _ (λh=>by cases h) ?_);rw[ho,zaj])
 (by rintro s ae ⟨l,v,rfl,hs,hp⟩;refine⟨(l,v),[],rfl,⟨hs,rfl⟩,?_⟩;rintro x rfl;exact hp _ rfl)
theorem qd7:FD X 121 Xl:=FD.mk (H:=[]) (hk:=[(3,ah (aK 121 3) qhh)]) (by kernel_rfl) .nil (.cons qcV .nil) (by
 intro ps R ae hh;obtain⟨l,v,rfl,rfl,hs,hp⟩:=hh
 (rw[<-qka];delta mN xd p8 Ca mr vg YN N8 Zdp eX eY e7 eN eO mH nt Z7 JE rE Z3h bP cE LZ ZdR)
 exact⟨l,v,rfl,hs,λo ho=>hp o ho⟩)
theorem qcW:LD X 93 4 (ah (aK 93 4) qhj):=LD.par (H:=[(121,Xl)]) (hk:=[]) (by kernel_rfl) (by kernel_rfl) (.cons qd7 .nil) .nil
 (A:=List bB) (B:=List bB×List bB) (λa b=>or8 a b.1 b.2) (λa b=>Xm a/\xI a b.1 b.2/\b.1++uP a (a.length+1) b.2=wa a) (λa b=>a.length-b.1.length)
 (λa z=>z=(.exit 0,⟨35,[(4,.sl 0 0 (wa a).length)],[(0,⟨0,none,gK false (wa a)⟩)]⟩))
 (by
  rintro a ⟨o,w⟩ ⟨hc,hw,hx⟩
  try dsimp only at*
  (rw[<-qhi];delta mN xd p8 Ca mr vg ZdW AP FF ZdU ZdV YM Zo eX eY e7 eN eO l9 e8 yp Rl ZdT WY)
  have hl:=hw.len;have hc1:=hc.1;cases w with
  |nil=>
   refine jU (by simp) ?_;have:o=wa a:=by rw[<-hx];simp[uP]
   rw[this];rfl
  |cons x w=>
   rw[zao] at hl;have hs:=hw.step hc.2.1 hc.2.2;have xV:=hs.len;rw[zah,zah,zbl] at xV;have hm:=Dy hc.2.1 hc.2.2 a.length (a.length+1) (o++[x]) (jm a x.1++w) hs (by rw[zah,zbl];omega) (by rw[zah,zbl];omega);have uX:(o++[x])++uP a (a.length+1) (jm a x.1++w)=wa a:=by rw[<-hm,<-hx,zaM];rfl
   have e1:D.nth ((x::w).map dX) 0=dX x:=rfl;rw[e1];have t2:D.agg [D.int .i64 (D.aj (D.ar (dX x) 0)),D.int .i64 (D.aj (D.ar (dX x) 1)),D.int .i64 (D.aj (D.ar (dX x) 2)),D.int .i64 (D.aj (D.ar (dX x) 3)),D.int .i64 (D.aj (D.ar (dX x) 4)),D.int .i64 (D.aj (D.ar (dX x) 5)),D.str (D.cK (D.ar (dX x) 6))]=dX x:=rfl;have t3:List.take ((x::w).length-1) (List.drop 1 ((x::w).map dX))=w.map dX:=by rw[zbg,List.drop_succ_cons,zb5,zao,Nat.add_sub_cancel,b7]
   rw[t2,t3,bO];refine bn (by rw[zao];omega) (ao (by rw[zao];omega) (ao (by simp) (aq (sZ _) (ao (by rw[zao];omega) (aq (c8 rfl (by rw[zaa]) (by omega) (by decide)) ⟨a,x.1,by rw[b7];rfl,rfl,hc.1,λb hb=> ?_⟩)))));have S8:b.length+w.length<=1000000:=by rw[hb];omega
   rw[b7];have t4:List.take (0+(b.map dX).length) ([]++b.map dX)++w.map dX=(b++w).map dX:=by rw[zbk,zaF,zaj,zau]
   rw[t4];refine aq ?_ (aq ?_ ⟨a.length-(o.length+1),by omega,(o++[x],b++w),?_,⟨hc,by rw[hb];exact hs,by rw[hb];exact uX⟩,by rw[zah,zbl]⟩)
   ·rw[zab];exact⟨by simp,bN (by rw[zaa];omega) (by rw[zaa];omega)⟩
   ·rw[zab];exact⟨by simp,bN (by rw[zaa,zaa];omega) (by rw[zaa,zaa];omega)⟩
   simp only[or8,zah,zaa,zaF,zao,zat])
 (by rintro s ae ⟨a,rfl,hc,hp⟩;refine⟨a,([],jm a aB),rfl,⟨hc,xI.start hc.2.1,rfl⟩,?_⟩;rintro z rfl;exact hp _ rfl)
theorem qks:FD X 93 qhk:=FD.mk (H:=[(107,W4),(121,Xl)]) (hk:=[(4,ah (aK 93 4) qhj)]) (by kernel_rfl) (.cons qdZ (.cons qd7 .nil)) (.cons qcW .nil) (by
 intro ps R ae hh;obtain⟨l,rfl,rfl,hs,hp⟩:=hh
 (rw[<-qkb];delta mN xd p8 Ca mr vg YN Zdp ZdW rE AP YM eX eY e7 eN eO l9 e8 Z7 ZdX FF Zo yp)
 have aQ:=AJ (l:=l) _ (zak _);have hln:=rn (l:=l) _ (zak _);rw[zaj] at aQ hln;have hle:(uM l).length<=1000000:=zaE hln hs.2.1;refine⟨l,rfl,rfl,hs,λo ho=>⟨o,aB,by rw[b7],rfl,by rw[ho];exact hle,λb hb=>⟨o,by rw[hb],⟨by rw[ho];exact hle,by rw[ho];exact aQ.1,λe he=>(aQ.2 e (ho▸he)).1⟩,λu hu=>hp u (by rw[hu,ho])⟩⟩⟩)
theorem qcX:LD X 58 4 (ah (aK 58 4) qhl):=LD.idx (H:=[(42,Vs),(91,K0)]) (hk:=[]) (by kernel_rfl) (by kernel_rfl) (.cons qdC (.cons T5 .nil)) .nil
 (A:=List ay×List av×List bB) (B:=List bB) (λa o i=>se8 a.1 a.2.1 a.2.2 o i) (λa=>a.2.2.length) (λa i o=>(a.1.length<=1000000/\a.2.1.length<=1000000/\a.2.2.length<=1000000)/\o=(a.2.2.take i).filter (JQ a.1 a.2.1))
 (λa x=>x=(.exit 0,⟨44,[(8,.sl 0 0 (a.2.2.filter (JQ a.1 a.2.1)).length)],[(0,⟨0,none,gK false (a.2.2.filter (JQ a.1 a.2.1))⟩)]⟩))
 (by
  rintro⟨on,g,a⟩ o i ae h0 bK aQ ⟨hc,ho⟩ hn aT
  try dsimp only at*
  (rw[<-Xn];delta mN xd p8 Ca ZA ZQ mr vg fg gJ dq kC rj Za Z9 Zw ZdY Zt vf YO YP ZdI FF ZdQ Xj WY fF nu eX eY e7 eN eO l9 e8 Zdw Fu dv kQ Zo iP iQ nb jy Bs LU WV ZcZ)
  have k9:o.length<=i.toNat:=by rw[ho];refine zaE (zaG _ _) ?_;rw[zas];omega
  have e1:D.nth (a.map dX) i.toNat=dX a[i.toNat]:=ax _ _ _ aQ;have iv:(a.take (i.toNat+1)).filter (JQ on g)=if JQ on g a[i.toNat]=true then o++[a[i.toNat]] else o:=by
   rw[zae aQ,zbw,<-ho];split
   next h=>rw[zbU h];rfl
   rename_i h;rw[zbV h,zcs,zaV]
  have bZ:=λo' (ff:o'=if JQ on g a[i.toNat]=true then o++[a[i.toNat]] else o)=>hn o' ⟨hc,by rw[iv];exact ff⟩;generalize a[i.toNat]=e at*
  rw[e1];have t2:D.agg [D.int .i64 (D.aj (D.ar (dX e) 0)),D.int .i64 (D.aj (D.ar (dX e) 1)),D.int .i64 (D.aj (D.ar (dX e) 2)),D.int .i64 (D.aj (D.ar (dX e) 3)),D.int .i64 (D.aj (D.ar (dX e) 4)),D.int .i64 (D.aj (D.ar (dX e) 5)),D.str (D.cK (D.ar (dX e) 6))]=dX e:=rfl;rw[t2,bO];have dt:0<=i/\i<(a.length:Int):=⟨h0,bK⟩
  have Qm:i.toNat<(a.map dX).length:=by rw[zaa];exact aQ
  have rV: ¬(BT e.1∈on)->JQ on g e=false:=λh=>by unfold JQ;rw[zaO h];rfl
  refine bn bK (ao dt (ao Qm (aq (sZ _) ⟨on,BT e.1,rfl,rfl,hc.1,λb hb=>aA (λA8=>ao dt (ao Qm (aq (sZ _) ⟨g,e.1,rfl,rfl,hc.2.1,aA (λhg=>ao dt (ao Qm (aq (sZ _) ?_))) λhg=>ao (by omega) (bZ o ?_)⟩))) λw6=>ao (by omega) (bZ o ?_)⟩)))
  ·have jv:JQ on g e=true:=by unfold JQ;rw[<-hb,A8,hg];rfl
   have hy:=bZ _ rfl;rw[zap jv] at hy;simp only[se8,zah] at hy;exact aq (c8 rfl (by rw[zaa]) (by omega) (by decide)) (ao (by omega) hy)
  ·have jv:JQ on g e=false:=by unfold JQ;rw[hg,zcA]
   rw[jv];rfl
  rw[rV (by rw[hb,zaP] at w6;exact w6)];rfl)
 (by
  rintro⟨on,g,a⟩ o i ae hi ⟨hc,ho⟩ aT
  try dsimp only at*
  (rw[<-Xn];delta mN xd p8 Ca ZA ZQ mr vg fg gJ dq kC rj Za Z9 Zw ZdY Zt vf YO YP ZdI FF ZdQ Xj WY fF nu eX eY e7 eN eO l9 e8 Zdw Fu dv kQ Zo iP iQ nb jy Bs LU WV ZcZ)
  refine jU (by omega) (aT _ (λh=>by cases h) ?_);rw[ho,zaj])
 (by rintro s ae ⟨on,g,a,rfl,hs,hp⟩;refine⟨(on,g,a),[],rfl,⟨hs,rfl⟩,?_⟩;rintro x rfl;exact hp _ rfl)
theorem Jj{l:List bx}(hs:e9 l):(wa (uM l)).length<=1000000:=by
 have aQ:=AJ (l:=l) _ (zak _);have hln:=rn (l:=l) _ (zak _);rw[zaj] at aQ hln;have:=Jb aQ.1 (λe he=>(aQ.2 e he).1) ((uM l).length+1) [] _ (xI.start aQ.1);have:=hs.2.1;unfold wa;rw[zat] at*
 omega
theorem qcY:FD X 58 L0:=FD.mk (H:=[(93,qhk)]) (hk:=[(4,ah (aK 58 4) qhl)]) (by kernel_rfl) (.cons qks .nil) (.cons qcX .nil) (by
 intro ps R ae hh;obtain⟨l,on,g,rfl,rfl,hs,hp⟩:=hh
 (rw[<-qkc];delta mN xd p8 Ca mr vg YN N8 fF nu dv kQ Zdp Z7 Yt rE fg gJ dq kC rj ZdZ Zo yp)
 exact⟨l,rfl,rfl,hs.1,λo ho=>⟨on,g,o,rfl,⟨hs.2.1,hs.2.2,by rw[ho];exact Jj hs.1⟩,λu hu=>hp u (by rw[hu,ho];rfl)⟩⟩)
theorem qcZ:LD X 33 3 (ah (aK 33 3) qhm):=LD.idx (H:=[]) (hk:=[]) (by kernel_rfl) (by kernel_rfl) .nil .nil
 (A:=List bB) (B:=List UInt8) (λl s i=>tx8 l s i) (λl=>l.length) (λl i s=>(l.length<=1000000/\(ki l).length<=1000000000000)/\s=ki (l.take i))
 (λl x=>x=(.exit 0,⟨19,[(3,sD (ki l))],[]⟩))
 (by
  rintro l s i ae h0 bK aQ ⟨hc,hs⟩ hn aT
  try dsimp only at*
  (rw[<-Xo];delta ZA tq mN LZ Za Z9 Zw ZJ Zt vf q9 Bs ZdN)
  have e1:D.nth (l.map dX) i.toNat=dX l[i.toNat]:=ax _ _ _ aQ;have iv:ki (l.take (i.toNat+1))=s++l[i.toNat].2.2:=by unfold ki;rw[zae aQ,za9,hs];simp[ki]
  have hle:(ki (l.take (i.toNat+1))).length<=(ki l).length:=by
   have:ki l=ki (l.take (i.toNat+1))++ki (l.drop (i.toNat+1)):=by unfold ki;rw[<-za9,zbi]
   rw[this,zah];omega
  rw[iv,zah] at hle;have dt:0<=i/\i<((l.map dX).length:Int):=by rw[zaa];exact⟨h0,bK⟩
  have bZ:=hn _ ⟨hc,iv.symm⟩;rw[e1];generalize l[i.toNat]=e at*
  have c6:D.cK (D.ar (dX e) 6)=e.2.2:=rfl;rw[c6];refine bn dt.2 (ao dt (aq (sZ _) (ao (by omega) (ao (by omega) bZ)))))
 (by
  rintro l s i ae hi ⟨hc,hs⟩ aT
  try dsimp only at*
  (rw[<-Xo];delta ZA tq mN LZ Za Z9 Zw ZJ Zt vf q9 Bs ZdN)
  refine jU (by rw[zaa];omega) (aT _ (λh=>by cases h) ?_);rw[hs,zaj])
 (by rintro s ae ⟨l,rfl,hs,hp⟩;refine⟨l,[],rfl,⟨hs,rfl⟩,?_⟩;rintro x rfl;exact hp _ rfl)
theorem qhJ:FD X 33 Xp:=FD.mk (H:=[]) (hk:=[(3,ah (aK 33 3) qhm)]) (by kernel_rfl) .nil (.cons qcZ .nil) (by
 intro ps R ae hh;obtain⟨l,rfl,rfl,hs,hp⟩:=hh
 (rw[<-qkd];delta mr N8 Z7 K6 vJ mN LZ Ze0)
 exact⟨l,rfl,hs,λo ho=>hp o ho⟩)
end
def AR(l:List ak)(on:List ay)(x:av):List bB:=N9 (cP l x) on (iT l on x)
def XO(l:List ak):Prop:=lY l/\ ∀x,e9 (cP (aw l) x)/\QA (aw l) (fP l)/\(iT (aw l) (fP l) x).length<=1000000
theorem qhK(l:List ak)(x:av)(ae:P×List (Nat×En)->Prop):(∃(au:List ak),jl l=jl au/\Zo/\lY au/\ ∀(m:List ak),m=aw au-> ∃(l:List ak),Zce m=jl l/\Zo/\iR l/\ ∀(o:List Hd),o=List.map eC l-> ∃(l:List Hd),Z7Z o=[P.d (D.sl 4 (List.map bM l))]/\Zo/\pZ l/\ ∀(o:List ay),o=AW l-> ∃(l:List ak) (aX:av),LS m::e8 x=ct l::e8 aX/\Zo/\WQ l/\ ∀(aU:List bx),aU=cP l aX-> ∃(l:List ak) (on:List ay) (x_2:av),LS m::P.d (N6 o)::e8 x=ct l::kC on::e8 x_2/\Zo/\QA l on/\ ∀(Qt:List av),Qt=iT l on x_2-> ∃(l:List bx) (on:List ay) (g:List av),[Zdz aU,P.d (N6 o),Qu Qt]=[yp l,kC on,gJ g]/\Zo/\(e9 l/\kQ on/\nu g)/\ ∀(o:List bB),o=N9 l on g->YN ae o)=(aJ [(40,uD),(44,VM),(53,VS),(59,WR),(60,Xh),(58,L0)] [] 34 [bp l,.d (bV x)] []) ae:=by kernel_rfl
def XP:bg:=λps R ae=> ∃l x,ps=[bp l,.d (bV x)]/\R=[]/\XO l/\ ∀o,o=AR (aw l) (fP l) x->ae (.sl 0 0 o.length,[(0,⟨0,none,gK false o⟩)])
abbrev rJ(z:Bool)(l:List fH):Obj:= .arr 74 z (l.map u4)
def s5(l:List ak)(on:List ay)(x:It):fH:=(x.2.1,x.2.2.1,if x.2.2.1=true then [] else ki (AR l on x.1))
abbrev en4(l:List ak)(o:List ay)(p:List Pl)(h g:List aZ)(x:List It)(e:List fH)(i:Int):S:=⟨41,[(0,bp l),(3,.ref 0 0 0),(4,.sl 1 0 e.length),(5,iD i)],[(0,⟨0,none,.box 69 [.d (.sl 2 (o.map bh)),.d (.sl 8 (p.map eB)),.d (.sl 5 (h.map iH)),.d (.sl 5 (g.map iH)),.d (.sl 6 (x.map ew))]⟩),(1,⟨0,none,rJ false e⟩)]⟩
def QG(e:List fH):En:=En.mk 0 none (Obj.arr (74:TypeId) false (List.map u4 e))
def xe(e:List fH):List (Nat×En):=[(0,QG e)]
def Zfg(x:List It)(i:Int):List D:=[D.agg [D.str (D.cK (D.ar (AY x i) 3)),D.bool (D.eG (D.ar (AY x i) 4)),vJ]]
def Zff(e:List fH):List D:=List.take (List.length e) (List.map u4 e)
def Zfe(o:List ay)(p:List Pl)(h:List aZ)(g:List aZ)(x:List It):Nat×En:=(0,En.mk 0 none (Obj.box (69:TypeId) [kC o,iG p,vY h,vY g,P.d (D.sl 6 (List.map ew x))]))
def Zfd(x:List It)(i:Int)(t:List UInt8):List D:=[D.agg [D.str (D.cK (D.ar (AY x i) 3)),D.bool (D.eG (D.ar (AY x i) 4)),D.str t]]
theorem qd8(l:List ak)(o:List ay)(p:List Pl)(h g:List aZ)(x:List It)(e:List fH)(i:Int)(ae:PX×S->Prop):(bif decide (i<(↑(QY x):Int)) then ob (decide ((0:Int)<=i/\i<(↑(QY x):Int))) (ob (cw PR (72:TypeId) (AY x i)) (bif !D.eG (D.ar (AY x i) 4) then∃(au:List ak) (aX:av),[ct l,P.d (D.agg [D.int .i64 (D.aj (D.ar (AY x i) 0)),D.int .i64 (D.aj (D.ar (AY x i) 1)),D.int .i64 (D.aj (D.ar (AY x i) 2))])]=ct au::e8 aX/\Zo/\XO au/\ ∀(aU:List bB),aU=AR (aw au) (fP au) aX-> ∃(eD:List bx),[P.d (D.sl 7 (FF aU))]=[yp eD]/\Zo/\(YM eD/\List.length (ki eD)<=1000000000000)/\ ∀(t:List UInt8),t=ki eD->ob (Nat.ble (List.length e) (List.length (List.map u4 e))&&aI (List.length e+List.length (Zfd x i t)) 40) (ob (Zw i) (ae (PX.normal,S.mk 41 (de l::cE::(4,P.sl 1 0 (List.length e+List.length (Zfd x i t)))::ZB i) [Zfe o p h g x,(1,En.mk 0 none (Obj.arr (74:TypeId) false (Zff e++Zfd x i t)))]))) else ob (Nat.ble (List.length e) (List.length (List.map u4 e))&&aI (List.length e+List.length (Zfg x i)) 40) (ob (Zw i) (ae (PX.normal,S.mk 41 (de l::cE::(4,P.sl 1 0 (List.length e+List.length (Zfg x i)))::ZB i) [Zfe o p h g x,(1,En.mk 0 none (Obj.arr (74:TypeId) false (Zff e++Zfg x i)))]))))) else ae (PX.exit 0,S.mk 41 [(4,P.sl 0 0 (List.length e))] (xe e)))=(aD [(34,XP),(33,Xp)] [] 15 4 (en4 l o p h g x e i)) ae:=by kernel_rfl
def qhL:S->K (PX×S):=λs ae=> ∃l o p h g x,s=en4 l o p h g x [] 0/\(XO l/\x.length<=1000000)/\ ∀e,e=x.map (s5 (aw l) (fP l))->ae (.exit 0,⟨41,[(4,.sl 0 0 e.length)],[(0,⟨0,none,rJ false e⟩)]⟩)
def Zfj:List (Nat×En):=[(1,En.mk 0 none (Obj.arr (74:TypeId) false []))]
theorem qmk(l:List ak)(ae:P×List (Nat×En)->Prop):(∃(au:List ak),jl l=jl au/\Zo/\SmS au/\ ∀(o:List ay) (t:Tl) (p:List Pl) (x:List It),o=fP au->t=jQ o (aw au)->p=sW (aw au) t->x=AI (aw au) t-> ∃(eD:List ak) (aU:List ay) (k8:List Pl) (h:List aZ) (g:List aZ) (aX:List It),S.mk 41 (de l::cE::(4,rE)::ZV) ((0,En.mk 0 none (Obj.box (69:TypeId) [kC o,iG p,P.d (D.sl 5 (List.map iH (Tl.h t))),P.d (D.sl 5 (List.map iH (Tl.g t))),P.d (D.sl 6 (List.map ew x))]))::Zfj)=S.mk 41 (de eD::cE::(4,rE)::ZV) (Zfe aU k8 h g aX::Zfj)/\(XO eD/\List.length aX<=1000000)/\ ∀(e:List fH),e=List.map (s5 (aw eD) (fP eD)) aX->ae (P.sl 0 0 (List.length e),xe e))=(aJ [(32,I8)] [(4,ah (aK 15 4) qhL)] 15 [bp l] []) ae:=by kernel_rfl
def FJ(l:List ak):List fH:=(AI (aw l) (jQ (fP l) (aw l))).map (s5 (aw l) (fP l))
def qhM:bg:=λps R ae=> ∃l,ps=[bp l]/\R=[]/\(SmS l/\XO l)/\ ∀e,e=FJ l->ae (.sl 0 0 e.length,[(0,⟨0,none,rJ false e⟩)])
section
variable{T:List Pl}{V V':List av}
theorem DC:(iu T V).length<=T.length:=by rw[Ie.length_eq,zaa];exact zaG _ _
end
theorem Oi: ∀(n:Nat) (s p:List UInt8),p∈EX n s->p.length<=s.length
 |0,s,p,h=>by unfold EX at h;cases h
 |n+1,[],p,h=>by unfold EX at h;cases h
 |n+1,a::s,p,h=>by
  unfold EX at h;rcases zav.1 h with rfl |h
  ·rw[zas];exact Nat.min_le_right _ _
  have:=Oi n _ p h;rw[zbe] at this;omega
theorem qc0{t p:List UInt8}(h:p∈n0 t):p.length<=t.length:=by
 unfold n0 at h;split at h
 ·exact Oi _ _ _ h
 cases h
theorem XQ{r:bx}{o:List bB}{n:Nat}(ho: ∀e∈o,e.2.2.length<=n){l:List (List UInt8)}(hl: ∀p∈l,p.length<=n): ∀i,i<=l.length-> ∀e∈JM r o (l.take i),e.2.2.length<=n
 |0,_=>by simpa [JM] using ho
 |i+1,hi=>by
  rw[uN (by omega)];have ih:=XQ (r:=r) ho hl i (by omega);intro e he;unfold Rj at he;split at he
  ·exact ih e he
  rcases zay.1 he with he |he
  ·exact ih e he
  rw[za0.1 he];exact hl _ (zaq _)
theorem XR{l:List bx}{n:Nat}(hl: ∀r∈l,r.2.2.length<=n): ∀i,i<=l.length-> ∀e∈uM (l.take i),e.2.2.length<=n
 |0,_=>by simp[uM]
 |i+1,hi=>by rw[uO (by omega)];have:=XQ (r:=l[i]'(by omega)) (XR hl i (by omega)) (l:=n0 (l[i]'(by omega)).2.2) (λp hp=>zaE (qc0 hp) (hl _ (zaq _))) _ (zak _);rw[zaj] at this;exact this
theorem AT{all:List bB}: ∀(n:Nat) (w:List bB),(∀e∈w,e∈all)-> ∀e∈uP all n w,e∈all
 |0,_,_,e,h=>by cases h
 |_+1,[],_,e,h=>by cases h
 |n+1,x::w,hw,e,h=>by
  unfold uP at h;rcases zav.1 h with rfl |h
  ·exact hw _ (.head _)
  refine AT n _ (λy hy=> ?_) e h;rcases zay.1 hy with hy |hy
  ·exact(l6.1 hy).1
  exact hw y (.tail _ hy)
theorem Jk{n:Nat}: ∀l:List bB,(∀e∈l,e.2.2.length<=n)->(ki l).length<=n*l.length
 | [],_=>by simp[ki]
 |e::l,h=>by
  have h1:=h e (.head _);have h2:=Jk l λy hy=>h y (.tail _ hy);unfold ki at*
  rw[zbA,zah,zao,Nat.mul_add,zdn];omega
theorem qc1{l:List ak}{on:List ay}{x:av}(h:e9 (cP l x)):(AR l on x).length<=1000000/\(ki (AR l on x)).length<=1000000000000:=by
 have h1:(AR l on x).length<=1000000:=zaE (zaG _ _) (Jj h);have h2: ∀e∈AR l on x,e.2.2.length<=100000:=λe he=>by have he:=(zbv.1 he).1;have:=AT (all:=uM (cP l x)) _ _ (λy hy=>(l6.1 hy).1) e he;have key:=XR (l:=cP l x) (n:=100000) (λr hr=>(h.2.2 r hr).1) _ (zak _);rw[zaj] at key;exact key e this
 have h3:=Jk _ h2;have h4:100000*(AR l on x).length<=100000*1000000:=Nat.mul_le_mul_left _ h1;exact⟨h1,by omega⟩
section
variable{X:XF}
theorem qhN:FD X 34 XP:=FD.mk (H:=[(40,uD),(44,VM),(53,VS),(59,WR),(60,Xh),(58,L0)]) (hk:=[]) (by kernel_rfl) (.cons IK (.cons qdD (.cons qdE (.cons qdY (.cons qhI (.cons qcY .nil)))))) .nil (by
 intro ps R ae hh;obtain⟨l,x,rfl,rfl,⟨hs,ht⟩,hp⟩:=hh
 (rw[<-qhK];delta mN xd p8 Ca mr vg YN fF nu dv kQ fg gJ yp Qs Qu Zdz dq kC N6 dn iR WQ cg ct eX eY e7 eN eO l9 e8 LS fR pZ LA Z7Z Zce Zo jl)
 obtain⟨h1,h2,h3⟩:=ht x;have xt:AW ((aw l).map eC)=fP l:=rfl;have hl:=h2.1;refine⟨l,rfl,rfl,hs,λm hm=>⟨m,by rw[b7],rfl,by rw[hm];exact hl.1,λo ho=>⟨o,by rw[b7],rfl,by rw[ho,hm,zaa];exact hl.1,λon qhO=>⟨m,x,by rw[b7],rfl,by rw[hm];exact⟨hl.1,hl.2.1⟩,λr hr=>⟨m,on,x,by rw[b7,b7],rfl,?_,λg hg=>⟨r,on,g,by rw[b7,b7,b7],rfl,?_,λe he=>hp e ?_⟩⟩⟩⟩⟩⟩
 ·rw[qhO,ho,hm,xt];exact h2
 ·rw[hr,hg,qhO,ho,hm,xt];exact⟨h1,hl.2.2,h3⟩
 rw[he,hr,hg,qhO,ho,hm,xt];rfl)
theorem qc2:LD X 15 4 (ah (aK 15 4) qhL):=LD.idx (H:=[(34,XP),(33,Xp)]) (hk:=[]) (by kernel_rfl) (by kernel_rfl) (.cons qhN (.cons qhJ .nil)) .nil
 (A:=List ak×List ay×List Pl×List aZ×List aZ×List It) (B:=List fH) (λa e i=>en4 a.1 a.2.1 a.2.2.1 a.2.2.2.1 a.2.2.2.2.1 a.2.2.2.2.2 e i) (λa=>a.2.2.2.2.2.length)
 (λa i e=>(XO a.1/\a.2.2.2.2.2.length<=1000000)/\e=(a.2.2.2.2.2.take i).map (s5 (aw a.1) (fP a.1)))
 (λa z=>z=(.exit 0,⟨41,[(4,.sl 0 0 (a.2.2.2.2.2.map (s5 (aw a.1) (fP a.1))).length)],[(0,⟨0,none,rJ false (a.2.2.2.2.2.map (s5 (aw a.1) (fP a.1)))⟩)]⟩))
 (by
  rintro⟨l,o,p,h,g,x⟩ e i ae h0 bK aQ ⟨hc,he⟩ hn aT
  try dsimp only at*
  (rw[<-qd8];delta QG xe vJ Zt AY Zfg Zff vY gh iG dq kC Zfe ZA ZB bP cE cg ct de Za Z9 Zw Zfd YM yp mN mr FF Zo eX eY e7 eN eO l9 e8 QY)
  have e1:D.nth (x.map ew) i.toNat=ew x[i.toNat]:=ax _ _ _ aQ;have iv:(x.take (i.toNat+1)).map (s5 (aw l) (fP l))=e++[s5 (aw l) (fP l) x[i.toNat]]:=by rw[zae aQ,zau,he];rfl
  have FM:e.length=i.toNat:=by rw[he,zaa,zas];omega
  have bZ:=hn _ ⟨hc,iv.symm⟩;have GQ:=hc.2;have dt:0<=i/\i<((x.map ew).length:Int):=by rw[zaa];exact⟨h0,bK⟩
  rw[e1];generalize x[i.toNat]=y at*
  have c4:D.eG (D.ar (ew y) 4)=y.2.2.1:=rfl;have c3:D.cK (D.ar (ew y) 3)=y.2.1:=rfl;have my:=(qc1 (on:=fP l) (hc.1.2 y.1).1)
  rw[c4,c3];refine bn dt.2 (ao dt (aq (qfh _) (aA (λhd=>⟨l,y.1,rfl,rfl,hc.1,λt ht=>⟨t,by rw[b7],rfl,by rw[ht];exact my,λs hs=> ?_⟩⟩) λhd=> ?_)))
  ·have qhP:s5 (aw l) (fP l) y=(y.2.1,y.2.2.1,s):=by unfold s5;rw[zan (by simpa using hd),hs,ht]
   rw[qhP] at bZ;have t2:D.agg [D.str y.2.1,D.bool y.2.2.1,D.str s]=u4 (y.2.1,y.2.2.1,s):=rfl;rw[t2,bO];simp only[en4,zah] at bZ;exact aq (c8 rfl (by rw[zaa]) (by omega) (by decide)) (ao (by omega) bZ)
  have qhP:s5 (aw l) (fP l) y=(y.2.1,y.2.2.1,[]):=by unfold s5;rw[zap (by simpa using hd)]
  rw[qhP] at bZ;have t2:D.agg [D.str y.2.1,D.bool y.2.2.1,D.str []]=u4 (y.2.1,y.2.2.1,[]):=rfl;rw[t2,bO];simp only[en4,zah] at bZ;exact aq (c8 rfl (by rw[zaa]) (by omega) (by decide)) (ao (by omega) bZ))
 (by
  rintro⟨l,o,p,h,g,x⟩ e i ae hi ⟨hc,he⟩ aT
  try dsimp only at*
  (rw[<-qd8];delta QG xe vJ Zt AY Zfg Zff vY gh iG dq kC Zfe ZA ZB bP cE cg ct de Za Z9 Zw Zfd YM yp mN mr FF Zo eX eY e7 eN eO l9 e8 QY)
  refine jU (by rw[zaa];omega) (aT _ (λh=>by cases h) ?_);rw[he,zaj])
 (by rintro s ae ⟨l,o,p,h,g,x,rfl,hs,hp⟩;refine⟨(l,o,p,h,g,x),[],rfl,⟨hs,rfl⟩,?_⟩;rintro z rfl;exact hp _ rfl)
theorem qkt:FD X 15 qhM:=FD.mk (H:=[(32,I8)]) (hk:=[(4,ah (aK 15 4) qhL)]) (by kernel_rfl) (.cons WJ .nil) (.cons qc2 .nil) (by
 intro ps R ae hh;obtain⟨l,rfl,rfl,hs,hp⟩:=hh
 (rw[<-qmk];delta QG xe vY gh iG dq kC Zfe Zfj Z7 ZV rE bP cE cg ct de Zo jl)
 refine⟨l,rfl,rfl,hs.1,λo t p x ho ht Ys hx=>⟨l,o,p,t.h,t.g,x,rfl,⟨hs.2,?_⟩,λe he=>hp e ?_⟩⟩
 ·have nq:=hs.2.2 aB;have ho2:cG (aw l)<=1000:=nq.2.1.1.2.1;have hB:=wU (on:=fP l) (l:=aw l) (gI (l:=l)) _ (zak _);rw[zaj] at hB;have h1:=uA (gI (l:=l)) (im l) (Lc (ET (jQ (fP l) (aw l)).a (jQ (fP l) (aw l)).p));have h2:=uz (ET (jQ (fP l) (aw l)).a (jQ (fP l) (aw l)).p);have h3:=rf (jQ (fP l) (aw l)).a (jQ (fP l) (aw l)).p;have h4:=uw (sW (aw l) (jQ (fP l) (aw l)));have h5:=DC (T:=pw (sW (aw l) (jQ (fP l) (aw l)))) (V:=Ld (jQ (fP l) (aw l)).h (jQ (fP l) (aw l)).g);have h6:=hB.2.1;rw[hx,ht,ho];unfold sW at h4 h5;unfold AI sW;omega
 rw[he,hx,ht,ho];rfl)
end
abbrev sgH(a b:ak)(i:Int):S:=⟨61,[(2,.ref 0 0 0),(3,.ref 1 0 0),(5,iD i)],[(0,⟨0,none,qcj a⟩),(1,⟨0,none,qcj b⟩)]⟩
def hNo:bg:=λ_ _ _=>False
theorem qku(a b:ak)(i:Int)(ae:PX×S->Prop):(bif UT i a then ob (Rb i a) (ob (Ra a i) (ob (Rb i b) (ob (Ra b i) False))) else ae (PX.exit 0,S.mk 61 [] []))=(aD [(39,hNo)] [] 22 4 (sgH a b i)) ae:=by kernel_rfl
def gSg:S->K (PX×S):=λs ae=> ∃a b,s=sgH a b 0/\a.ops=[]/\ae (.exit 0,⟨61,[],[]⟩)
def Zfp(gX:ak)(K7:ak):S:=S.mk 61 (JI::ti::ZV) [(0,yg gX),(1,yg K7)]
theorem qml(a b:ak)(ae:P×List (Nat×En)->Prop):(bif !(kh a==kh b&&(kg a==kg b&&true)) then Z4 ae else bif ak.n a !=ak.n b then Z4 ae else∃(v:List Int) (w:List Int),[P.d (iO a),P.d (iO b)]=Zx v::wT w/\Zo/\jd v/\bif !decide (v=w) then Z4 ae else bif !(Prod.fst (ak.bs a)==Prod.fst (ak.bs b)&&(Prod.snd (ak.bs a)==Prod.snd (ak.bs b)&&true)) then Z4 ae else bif xA a !=xA b then Z4 ae else∃(gX:ak) (K7:ak),Zfp a b=Zfp gX K7/\ak.ops gX=[]/\ZX ae)=(aJ [(26,HW)] [(4,ah (aK 22 4) gSg)] 22 [.d (aR a),.d (aR b)] []) ae:=by kernel_rfl
def hSg:bg:=λps R ae=> ∃a b:ak,ps=[.d (aR a),.d (aR b)]/\R=[]/\(a.ops=[]/\b.ops=[]/\jd a.deps)/\ ∀c:Bool,(c=true↔a=b)->ae (.d (.bool c),[])
def wg:ak:=⟨(1,1),1,[],(0,0),[⟨0,(1,1,0),aB,[97],true,[],aB,aB,[],[]⟩]⟩
def Zfq:D:=D.agg [Zg,Zg,Zg,NX,Z7,Z7,D.sl 18 [D.agg (Z7::Zg::Zg::Z7::Z7::Z7::Z7::D.str [(97:UInt8)]::D.bool true::Q5::Yr)]]
theorem qhQ(ae:P×List (Nat×En)->Prop):(ae (P.d Zfq,[]))=(aJ [] [] 21 [] []) ae:=by kernel_rfl
def XS:bg:=λps R ae=>ps=[]/\R=[]/\ae (.d (aR wg),[])
def Zfw(a:ay×Int):Int:=Prod.snd (Prod.fst a)
def Zfv(a:ay×Int):Int:=Prod.fst (Prod.fst a)
def Zfu(a_4:ak)(b:ak):Prop:=ak.ops a_4=[]/\ak.ops b=[]/\jd (ak.deps a_4)
def Zft(e:Int)(l:List ak)(r:Int):Prop:=e=lU (aw l) r
def Zfs(g:ak)(l:List ak)(r:Int):Prop:=g=nQ (aw l) r
def Zfx:List P:=P.d (D.sl 7 [Zfq])::Z14
def Zfr:Prop:=EqP [] []
theorem qhR(ae:P×List (Nat×En)->Prop):(Zfr/\Zo/\ ∃(l:List ak) (r:Int),Zfx=B9 l r/\Zo/\lY l/\ ∀(g:ak) (e:Int),Zfs g l r->Zft e l r-> ∃(l:List ak) (r:Int),Zfx=B9 l r/\Zo/\lY l/\ ∀(a:ay×Int),a=nR l r-> ∃(l:List ak) (r:Int),Zfx=B9 l r/\Zo/\lY l/\ ∀(a_2:ay×Int),a_2=kx l r->bif e==(0:Int) then∃(a_4:ak) (b:ak),[jz g,P.d (D.agg (Z3N::Zg::Z3N::D.sl 1 [Zg]::Z9h))]=[jz a_4,jz b]/\Zo/\Zfu a_4 b/\ ∀(c:Bool),(c=true↔a_4=b)->bif c then bif Prod.snd a==(0:Int) then bif Zfv a==D.aj (D.ar (D.nth [Zfq] 0) 0)&&(Zfw a==D.aj (D.ar (D.nth [Zfq] 0) 1)&&true) then ae (P.d (D.bool (Prod.snd a_2==(200:Int))),[]) else Z4 ae else Z4 ae else Z4 ae else Z4 ae)=(aJ [(21,XS),(12,hHn),(19,xc),(17,sa),(22,hSg)] [] 9 [] []) ae:=by kernel_rfl
def AU:bg:=λps R ae=>ps=[]/\R=[]/\ae (.d (.bool true),[])
theorem DE{α:Type}(f:α->D)(P:D->Prop)(Q:α->Prop)(h1: ∀y,P y-> ∃x,y=f x/\Q x): ∀es:List D,(∀y∈es,P y)-> ∃l:List α,es=l.map f/\ ∀x∈l,Q x
 | [],_=>⟨[],rfl,by simp⟩
 |y::es,hy=>by obtain⟨l,rfl,hl⟩:=DE f P Q h1 es λy h=>hy y (.tail _ h);obtain⟨x,rfl,hx⟩:=h1 y (hy y (.head _));exact⟨x::l,rfl,λz hz=>by rcases zav.1 hz with rfl |hz;exact hx;exact hl z hz⟩
section
variable{X:XF}
theorem qkv:FD X 39 hNo:=FD.mk (H:=[]) (hk:=[]) (by kernel_rfl) .nil .nil (by intro ps R ae hh;exact False.elim hh)
theorem qc3:LD X 22 4 (ah (aK 22 4) gSg):=LD.idx (H:=[(39,hNo)]) (hk:=[]) (by kernel_rfl) (by kernel_rfl) (.cons qkv .nil) .nil
 (A:=ak×ak) (B:=Unit) (λa _ i=>sgH a.1 a.2 i) (λ_=>0) (λa _ _=>a.1.ops=[]) (λ_ x=>x=(.exit 0,⟨61,[],[]⟩))
 (by rintro a _ i ae h0 bK aQ hI hn ho;exact absurd aQ (by simp))
 (by
  rintro⟨a,b⟩ _ i ae hi hI ho
  try dsimp only at*
  (rw[<-qku];delta Zt jT Ra xA Rb UT)
  have dt: ¬i<((a.ops.map dC).length:Int):=by rw[hI,hi];decide
  exact iK (zaO dt) (ho _ (λh=>by cases h) rfl))
 (by rintro s ae ⟨a,b,rfl,h1,h2⟩;refine⟨(a,b),(),rfl,h1,?_⟩;rintro x rfl;exact h2)
theorem qkw:FD X 22 hSg:=FD.mk (H:=[(26,HW)]) (hk:=[(4,ah (aK 22 4) gSg)]) (by kernel_rfl) (.cons Tq .nil) (.cons qc3 .nil) (by
 intro ps R ae hh;obtain⟨a,b,rfl,rfl,⟨ha,hb,hv⟩,hp⟩:=hh
 (rw[<-qml];delta ZW ZX pX kz kA iO kB kg gY kh iy yg Z7 ZV iN ti bP JI Zfp xA Zo Zx wT Z3 Z4)
 obtain⟨s,n,d,u,o⟩:=a;obtain⟨s',n',d',u',o'⟩:=b;dsimp only at*
 subst ha hb;have v1:(s.1==s'.1&&(s.2==s'.2&&true))=(s==s'):=Lp s s';have v2:(u.1==u'.1&&(u.2==u'.2&&true))=(u==u'):=Lp u u';rw[v1,v2];refine aA (λh=>hp false ⟨(λh=>by cases h),λe=> ?_⟩) λh1=>aA (λh=>hp false ⟨(λh=>by cases h),λe=> ?_⟩) λh2=>⟨d,d',rfl,rfl,hv,aA (λh=>hp false ⟨(λh=>by cases h),λe=> ?_⟩) λh3=>aA (λh=>hp false ⟨(λh=>by cases h),λe=> ?_⟩) λh4=>iK rfl ⟨⟨s,n,d,u,[]⟩,⟨s',n',d',u',[]⟩,rfl,rfl,hp true ⟨λ_=> ?_,λ_=>rfl⟩⟩⟩
 ·cases e;simp at h
 ·cases e;simp at h
 ·cases e;simp at h
 ·cases e;simp at h
 simp only[zc5,zaW,zai,bne_eq_false_iff_eq] at h1 h2 h3 h4;rw[h1,h2,h3,h4])
theorem qhS:FD X 21 XS:=FD.mk (H:=[]) (hk:=[]) (by kernel_rfl) .nil .nil (by
 intro ps R ae hh;obtain⟨rfl,rfl,hp⟩:=hh
 (rw[<-qhQ];delta Z4L vJ Z7 Yr Q5 NX Zg Zfq)
 exact hp)
theorem XU:lY [wg]:=⟨by decide,λg hg=>by
 rw[za0] at hg;subst hg;exact⟨λo ho=>by
  have:o=⟨0,(1,1,0),aB,[97],true,[],aB,aB,[],[]⟩:=by simpa [wg] using ho
  subst this;exact⟨by decide,by decide,by decide⟩,by decide,by decide⟩⟩
def qhT:ak:=⟨(2,1),2,[1],(0,0),[]⟩
variable(hX:XT X)
include hX
theorem QH:FD X 9 AU:=FD.mk (H:=[(21,XS),(12,hHn),(19,xc),(17,sa),(22,hSg)]) (hk:=[]) (by kernel_rfl) (.cons qhS (.cons qjy (.cons (Od hX) (.cons (FH hX) (.cons qkw .nil))))) .nil (by
 intro ps R ae hh;obtain⟨rfl,rfl,hp⟩:=hh
 (rw[<-qhR];delta Z3 Z4 Zfw Z4L vJ Z7 Yr Q5 NX Zg Zfq Zfv Zfu Z9h Z3N kz kA iO kB kg gY kh iy jz Zft Zfs Zk Zm Zn cg ct B9 Z14 Zfx Zo Zfr)
 refine⟨rfl,rfl,[wg],1,rfl,rfl,XU,λg e hg he=>⟨[wg],1,rfl,rfl,XU,λa ha=>⟨[wg],1,rfl,rfl,XU,λb hb=> ?_⟩⟩⟩;have e1:g=qhT:=hg.trans (by kernel_rfl);have e2:e=0:=he.trans (by kernel_rfl);have e3:a=((1,1),0):=ha.trans (by kernel_rfl);have e4:b=((0,0),200):=hb.trans (by kernel_rfl);rw[e1,e2,e3,e4];refine ie rfl ⟨qhT,qhT,rfl,rfl,⟨rfl,rfl,by decide⟩,λc hc=> ?_⟩;have:c=true:=hc.2 rfl;subst this;exact ie rfl (ie rfl (ie rfl hp)))
end
def ZfB:P:=P.d (D.sl 7 [])
def Zfz(bz:List cj):List P:=[P.d (D.sl 6 (List.map oa bz))]
def ZfE:Nat×En:=(0,En.mk 0 none (Obj.arr (34:TypeId) true []))
theorem DF{n:Int}(hw:(Lit.int .u8 n).wf=true):0<=n/\n<=255:=by
 have h1:IntKind.min .u8=0:=by decide
 have h2:IntKind.max .u8=255:=by decide
 replace hw:(decide (IntKind.min .u8<=n)&&decide (n<=IntKind.max .u8))=true:=hw
 rw[h1,h2,zab,zai,zai] at hw;exact hw
theorem qkx{m:Nat}{x:D}(h:BP PR (m+1) 5 x): ∃n,x=uE n/\0<=n/\n<=255:=by obtain⟨n,rfl,hw⟩:=SV Tryz.underlying5 h;exact⟨n,rfl,DF hw⟩
theorem qky{m:Nat}{x:D}(h:BP PR (m+3) 41 x): ∃d:cj,x=oa d/\FG d:=by
 obtain⟨cs,rfl,hl,hf⟩:=Hq (k:=6) Tryz.underlying41 (by kernel_rfl) h;obtain⟨a,b,c,d,e,f,rfl⟩: ∃a b c d e f,cs=[a,b,c,d,e,f]:=by
  match cs,hl with
  | [a,b,c,d,e,f],_=>exact⟨a,b,c,d,e,f,rfl⟩
 have z0:PR.cellsOf 5=1:=by kernel_rfl
 have z3:PR.cellsOf 4=1:=by kernel_rfl
 have g0:=hf _ (zbZ ..);have g1:=hf _ (zaL _ (zbZ ..));have g2:=hf _ (zaL _ (zaL _ (zbZ ..)));have g3:=hf _ (zaL _ (zaL _ (zaL _ (zbZ ..))));have g4:=hf _ (zaL _ (zaL _ (zaL _ (zaL _ (zbZ ..)))));have g5:=hf _ (zaL _ (zaL _ (zaL _ (zaL _ (zaL _ (zbZ ..))))));simp only[z0,z3,zb5,List.drop_succ_cons,List.take_succ_cons,List.take_zero] at g0 g1 g2 g3 g4 g5;obtain⟨x0,rfl,h0⟩:=tZ Tryz.underlying5 g0;obtain⟨x1,rfl,h1⟩:=tZ Tryz.underlying5 g1;obtain⟨x2,rfl,h2⟩:=tZ Tryz.underlying5 g2;obtain⟨x3,rfl,h3⟩:=tZ Tryz.underlying5 g3;obtain⟨x4,rfl,h4⟩:=tZ Tryz.underlying5 g4;obtain⟨x5,rfl⟩:=SX Tryz.underlying4 g5;exact⟨⟨x0,x1,x2,x3,x4,x5⟩,rfl,DF h0,DF h1,DF h2,DF h3,DF h4⟩
theorem qhU{m:Nat}{x:D}(h:BP PR (m+4) 26 x): ∃l:List cj,x= .sl 6 (l.map oa)/\AQ l:=by
 obtain⟨es,rfl,hl,hy⟩:=KB (k:=6) Tryz.underlying26 (by kernel_rfl) h;obtain⟨l,rfl,hq⟩:=DE oa _ FG (λy hy=>qky hy) es hy;refine⟨l,rfl,?_,hq⟩;rw[zaa] at hl;have:maxLen<=9223372036854775807:=by decide
 exact zaE hl this
theorem XV:bH 16 []:=Ul.1.le (by decide)
section
variable{X:XF}
variable(hX:XT X)
include hX
end
def oc(l:List ak)(r:Int)(z:Bool):Option ak:=if lU (aw l) r=0/\(if z=true then kx l r else nR l r).2=0 then some ⟨(nQ (aw l) r).s,(nQ (aw l) r).n,(nQ (aw l) r).deps,(if z=true then kx l r else nR l r).1,(nQ (aw l) r).ops⟩ else none
def uV(l:List ak)(r:Int)(z:Bool)(g:ak):Prop:=oc l r z=some g
def ZfO(g:ak)(a:ay×Int):List D:=[D.agg [iy g,gY g,kB g,iO g,D.int .i64 (Zfv a),D.int .i64 (Zfw a),D.sl 18 (List.map dC (ak.ops g))]]
def ZfP(e:Int)(ae:P×List (Nat×En)->Prop)(l:List ak)(a:ay×Int)(g:ak):Prop:=bif e !=(0:Int) then ae (P.cH (ct l::F4),[]) else bif Prod.snd a !=(0:Int) then ae (P.cH (ct l::F4),[]) else ob (ZeD l) (ob (ZeE l&&aI (L3 l+List.length (ZfO g a)) 88) (ae (P.cH (P.sl 0 0 (L3 l+List.length (ZfO g a))::FY),[(0,En.mk 0 none (Obj.arr (34:TypeId) false (ZeH l++ZfO g a)))])))
theorem qkz(l:List ak)(r:Int)(z:Bool)(ae:P×List (Nat×En)->Prop):(∃(au:List ak) (bT:Int),B9 l r=B9 au bT/\Zo/\lY au/\ ∀(g:ak) (e:Int),Zfs g au bT->Zft e au bT-> ∃(eD:List ak) (xZ:Int),B9 l r=B9 eD xZ/\Zo/\lY eD/\ ∀(a:ay×Int),a=nR eD xZ->bif z then∃(mI:List ak) (r_3:Int),B9 l r=B9 mI r_3/\Zo/\lY mI/\ ∀(a:ay×Int),a=kx mI r_3->ZfP e ae l a g else ZfP e ae l a g)=(aJ [(12,hHn),(19,xc),(17,sa)] [] 16 [bp l,iD r,.d (.bool z)] []) ae:=by kernel_rfl
def Ma:bg:=λps R ae=> ∃l r z,ps=[bp l,iD r,.d (.bool z)]/\R=[]/\lY l/\(oc l r z=none->ae (.cH [bp l,.d (.bool false)],[]))/\ ∀g,uV l r z g->ae (.cH [.sl 0 0 (l.length+1),.d (.bool true)],[(0,⟨0,none,pb false (l++[g])⟩)])
abbrev qhV(z:Bool)(l:List cj):Obj:= .arr 41 z (l.map oa)
abbrev pl6(m:List cj)(r:Int)(p:List cj)(i:Int):S:=⟨121,[(0,.d (.sl 6 (m.map oa))),(1,.d (uE r)),(5,.d (.bool true)),(6,.sl 0 0 p.length),(7,iD i)],[(0,⟨0,none,qhV false p⟩)]⟩
def ZfR(p:List cj):List (Nat×En):=[(0,En.mk 0 none (Obj.arr (41:TypeId) false (List.map oa p)))]
def ZfQ(r:Int):Nat×P:=(1,P.d (D.int .u8 r))
theorem qd9(m:List cj)(r:Int)(p:List cj)(i:Int)(ae:PX×S->Prop):(bif decide (i<Xy m) then ob (ZeR i m) (ob (cw PR (41:TypeId) (Ob m i)) (bif Int.tmod (D.aj (D.ar (Ob m i) 0)) (8:Int) !=(7:Int) then ob (ZeR i m) (ob (cw PR (41:TypeId) (Ob m i)) (ob (Nat.ble (List.length p) (List.length (List.map oa p))&&aI (List.length p+List.length [ZeU m i]) 6) (ob (Zw i) (ae (PX.normal,S.mk 121 (L4 m::ZfQ r::p7::(6,P.sl 0 0 (List.length p+List.length [ZeU m i]))::ZT i) [(0,En.mk 0 none (Obj.arr (41:TypeId) false (List.take (List.length p) (List.map oa p)++[ZeU m i])))]))))) else ob (Zw i) (ae (PX.normal,S.mk 121 (L4 m::ZfQ r::p7::(6,P.sl 0 0 (List.length p))::ZT i) (ZfR p))))) else ae (PX.exit 0,S.mk 121 [ZfQ r,p7,(6,P.sl 0 0 (List.length p))] (ZfR p)))=(aD [] [] 6 6 (pl6 m r p i)) ae:=by kernel_rfl
def s6(m:List cj):List cj:=m.filter λx=>x.what.tmod 8 !=7
def qhW:S->K (PX×S):=λs ae=> ∃m r,s=pl6 m r [] 0/\m.length<=2000000/\ ∀p,p=s6 m->ae (.exit 0,⟨121,[(1,.d (uE r)),(5,.d (.bool true)),(6,.sl 0 0 p.length)],[(0,⟨0,none,qhV false p⟩)]⟩)
abbrev tnD(g:List ak)(e:List fH)(k n:Int)(b:Bool):S:=⟨121,[(5,.d (.bool true)),(8,bp g),(9,.sl 0 0 e.length),(10,iD k),(11,iD n),(12,.d (.bool b))],[(0,⟨0,none,rJ false e⟩)]⟩
abbrev tnO(z:Bool)(g:List ak)(e:List fH)(k n:Int)(b:Bool):S:=⟨121,[(5,.d (.bool true)),(8,.sl 0 0 g.length),(9,.sl 1 0 e.length),(10,iD k),(11,iD n),(12,.d (.bool b))],[(0,⟨0,none,pb z g⟩),(1,⟨0,none,rJ false e⟩)]⟩
def Cd(e:List fH):Nat×P:=(9,P.sl 0 0 (List.length e))
def ZfW(ae:PX×S->Prop)(g:List ak)(e:List fH)(k:Int)(n:Int):Prop:=ae (PX.exit 2,S.mk 121 [p7,AH g,Cd e,w7 k,Fw n] (xe e))
def XW(e:List fH):List (Nat×En):=[(1,QG e)]
def Rr(e:List fH):Nat×P:=(9,P.sl 1 0 (List.length e))
def ZfV(ae:PX×S->Prop)(e:List fH)(k:Int)(n:Int):List P->Prop:=λ(s0:List P)=> ∃(l:List ak) (r:Int) (z:Bool),s0=[ct l,Zm r,dV z]/\Zo/\lY l/\(oc l r z=none->ae (PX.normal,S.mk 121 [p7,AH l,Cd e,w7 k,Fw n,(12,P.d Z3)] (xe e)))/\ ∀(g:ak),uV l r z g->ob (Zw n) (ae (PX.normal,S.mk 121 [p7,(8,P.sl 0 0 (dn l+1)),Rr e,w7 k,(11,P.d (ZA n)),(12,ZW)] ((0,Z9z l g)::XW e)))
theorem qea(g:List ak)(e:List fH)(k n:Int)(b:Bool)(ae:PX×S->Prop):(bif b then bif decide (n<(40:Int)) then ZfV ae e k n (ct g::Zm k::F4) else ZfW ae g e k n else ZfW ae g e k n)=(aD [(16,Ma)] [] 6 15 (tnD g e k n b)) ae:=by kernel_rfl
def ZfX(z:Bool)(g:List ak)(e:List fH):List (Nat×En):=(0,En.mk 0 none (Obj.arr (34:TypeId) z (cg g)))::XW e
def ZfY(ae:PX×S->Prop)(g:List ak)(e:List fH)(k:Int)(n:Int)(z:Bool):Prop:=ae (PX.exit 2,S.mk 121 [p7,(8,lZ g),Rr e,w7 k,Fw n] (ZfX z g e))
theorem qkA(z:Bool)(g:List ak)(e:List fH)(k n:Int)(b:Bool)(ae:PX×S->Prop):(bif b then bif decide (n<(40:Int)) then ZfV ae e k n (LS g::Zm k::F4) else ZfY ae g e k n z else ZfY ae g e k n z)=(aD [(16,Ma)] [] 6 15 (tnO z g e k n b)) ae:=by kernel_rfl
abbrev twD(g:List ak)(e:List fH)(k n w i:Int):S:=⟨121,[(5,.d (.bool true)),(8,bp g),(9,.sl 0 0 e.length),(10,iD k),(11,iD n),(13,iD w),(14,iD i)],[(0,⟨0,none,rJ false e⟩)]⟩
def Zg0(k:Int)(n:Int)(w:Int)(i:Int):List (Nat×P):=[w7 k,Fw n,(13,Zm w),(14,P.d (ZA i))]
def ZfZ(k:Int)(n:Int)(w:Int)(i:Int):List (Nat×P):=[w7 k,Fw n,(13,P.d (ZA w)),(14,P.d (ZA i))]
theorem qeb(g:List ak)(e:List fH)(k n w i:Int)(ae:PX×S->Prop):(bif nv i g then ob (iC i g) (ob (dM g i) (bif la g i==k then ob (iC i g) (ob (dM g i) (bif Qr g i then ob (Zw w) (ob (Zw i) (ae (PX.normal,S.mk 121 (p7::AH g::Cd e::ZfZ k n w i) (xe e)))) else ob (Zw i) (ae (PX.normal,S.mk 121 (p7::AH g::Cd e::Zg0 k n w i) (xe e))))) else ob (Zw i) (ae (PX.normal,S.mk 121 (p7::AH g::Cd e::Zg0 k n w i) (xe e))))) else ae (PX.exit 4,S.mk 121 [p7,AH g,Cd e,w7 k,Fw n,(13,Zm w)] (xe e)))=(aD [] [] 6 21 (twD g e k n w i)) ae:=by kernel_rfl
abbrev trD(g:List ak)(e:List fH)(k n i:Int):S:=⟨121,[(5,.d (.bool true)),(8,bp g),(9,.sl 0 0 e.length),(10,iD k),(11,iD n),(15,iD i)],[(0,⟨0,none,rJ false e⟩)]⟩
abbrev trO(z:Bool)(g:List ak)(e:List fH)(k n i:Int):S:=⟨121,[(5,.d (.bool true)),(8,.sl 0 0 g.length),(9,.sl 1 0 e.length),(10,iD k),(11,iD n),(15,iD i)],[(0,⟨0,none,pb z g⟩),(1,⟨0,none,rJ false e⟩)]⟩
def Zg1(ae:PX×S->Prop)(e:List fH)(k:Int)(i:Int)(n:Int):List P->Prop:=λ(s0:List P)=> ∃(l:List ak) (r:Int) (z:Bool),s0=[ct l,Zm r,dV z]/\Zo/\lY l/\(oc l r z=none->ae (PX.ret,S.mk 121 [(4,P.d Z3),p7,AH l,Cd e,w7 k] (xe e)))/\ ∀(g:ak),uV l r z g->ob (Zw i) (ae (PX.normal,S.mk 121 [p7,(8,P.sl 0 0 (dn l+1)),Rr e,w7 k,Fw n,(15,P.d (ZA i))] ((0,Z9z l g)::XW e)))
theorem qkB(g:List ak)(e:List fH)(k n i:Int)(ae:PX×S->Prop):(bif Zi i n then Zg1 ae e k i n (ct g::Zm k::FY) else ae (PX.exit 6,S.mk 121 [p7,AH g,Cd e,w7 k] (xe e)))=(aD [(16,Ma)] [] 6 28 (trD g e k n i)) ae:=by kernel_rfl
theorem qkC(z:Bool)(g:List ak)(e:List fH)(k n i:Int)(ae:PX×S->Prop):(bif Zi i n then Zg1 ae e k i n (LS g::Zm k::FY) else ae (PX.exit 6,S.mk 121 [p7,(8,lZ g),Rr e,w7 k] (ZfX z g e)))=(aD [(16,Ma)] [] 6 28 (trO z g e k n i)) ae:=by kernel_rfl
def Jl(g:List ak)(k:Int):Prop:=bH 16 g/\(∀x∈g,x.bs=(0,0))/\1<=k/\k<=3
def Mb(g:List ak)(k:Int)(L:List ak)(n:Int):Prop:=eM g k (bt g k).length 0 L/\n=(bt g k).length
abbrev tnE(L:List ak)(e:List fH)(k n:Int):PX×S:=(.exit 2,⟨121,[(5,.d (.bool true)),(8,bp L),(9,.sl 0 0 e.length),(10,iD k),(11,iD n)],[(0,⟨0,none,rJ false e⟩)]⟩)
def XX:S->K (PX×S):=λs ae=>(∃(g:List ak) (e:List fH) (k:Int),s=tnD g e k 0 true/\Jl g k/\ ∀L n,Mb g k L n->ae (tnE L e k n))\/(∃(e:List fH) (k:Int),s=tnO true [] e k 0 true/\Jl [] k/\ ∀L n,Mb [] k L n->ae (tnE L e k n))
def Jm(L:List ak)(k w:Int):Prop:=w=((L.filter λg=>g.s.2==k&&(g.bs==(0,0))).length:Int)
def XY:S->K (PX×S):=λs ae=> ∃(L:List ak) (e:List fH) (k n:Int),s=twD L e k n 0 0/\L.length<=1000000/\ ∀w,Jm L k w->ae (.exit 4,⟨121,[(5,.d (.bool true)),(8,bp L),(9,.sl 0 0 e.length),(10,iD k),(11,iD n),(13,iD w)],[(0,⟨0,none,rJ false e⟩)]⟩)
def Mc(g:List ak)(k:Int)(L:List ak):Prop:=eM g k (bt g k).length (bt g k).length L
def XZ:S->K (PX×S):=λs ae=> ∃(g L:List ak) (e:List fH) (k n:Int),s=trD L e k n 0/\(Jl g k/\Mb g k L n)/\(∀L',Mc g k L'->ae (.exit 6,⟨121,[(5,.d (.bool true)),(8,bp L'),(9,.sl 0 0 e.length),(10,iD k)],[(0,⟨0,none,rJ false e⟩)]⟩))/\ ∀L',Mc g k L'->ae (.exit 6,⟨121,[(5,.d (.bool true)),(8,.sl 0 0 L'.length),(9,.sl 1 0 e.length),(10,iD k)],[(0,⟨0,none,pb false L'⟩),(1,⟨0,none,rJ false e⟩)]⟩)
def Zg4:List (Nat×P):=[(11,P.d Z7),(12,ZW)]
def Zga(bT:Int):List (Nat×P):=(10,P.d (D.int .i64 ((1:Int)+Int.tmod bT (3:Int))))::Zg4
def Zg7(e_2:List fH)(ae:P×List (Nat×En)->Prop)(a:ay×Int):List P->Prop:=λ(s0:List P)=> ∃(l:List ak),s0=jl l/\Zo/\(SmS l/\XO l)/\ ∀(e:List fH),e=FJ l-> ∃(v:List fH) (w:List fH),[P.d (D.sl 3 (Zff e)),P.d (D.sl 3 (Zff e_2))]=[ZdB v,ZdB w]/\Zo/\List.length v<=3000000/\ ∀(b:Bool),(b=true↔v=w)->bif b then ae (P.d (D.bool (Prod.snd a==(200:Int))),[]) else Z4 ae
def Zg6(L:List ak)(e_2:List fH)(k:Int)(n:Int):S:=S.mk 121 [p7,AH L,Cd e_2,w7 k,Fw n,(15,P.d Z7)] (xe e_2)
def Zg5(rG:List ak)(e:List fH)(bX:Int)(mf:Int):S:=S.mk 121 [p7,AH rG,Cd e,w7 bX,Fw mf,(13,P.d Z7),(14,P.d Z7)] (xe e)
def Zg8(L:List ak)(e_1:List fH)(k:Int)(n:Int)(ae:P×List (Nat×En)->Prop):Prop:= ∃(rG:List ak) (e:List fH) (bX:Int) (mf:Int),Zg5 L e_1 k n=Zg5 rG e bX mf/\iR rG/\ ∀(w:Int),Jm rG bX w->bif mf !=w then Z4 ae else∃(g:List ak) (L:List ak) (e_2:List fH) (k:Int) (n:Int),Zg6 rG e bX mf=Zg6 L e_2 k n/\(Jl g k/\Mb g k L n)/\(∀(L':List ak),Mc g k L'-> ∃(l:List ak) (r:Int),B9 L' k=B9 l r/\Zo/\lY l/\ ∀(a:ay×Int),a=kx l r->Zg7 e_2 ae a (jl L'))/\ ∀(L':List ak),Mc g k L'-> ∃(l:List ak) (r:Int),LS L'::Zn k=B9 l r/\Zo/\lY l/\ ∀(a:ay×Int),a=kx l r->Zg7 e_2 ae a (Zce L')
def Zgc(ae:P×List (Nat×En)->Prop):S->Prop:=λ(s0:S)=> ∃(e_1:List fH) (k:Int),s0=S.mk 121 (p7::(8,ZY)::Rr e_1::w7 k::Zg4) (ZfE::XW e_1)/\Jl [] k/\ ∀(L:List ak) (n:Int),Mb [] k L n->Zg8 L e_1 k n ae
def Zgb(e:List fH)(bT:Int):S:=S.mk 121 (p7::(8,ZY)::Rr e::Zga bT) (ZfE::XW e)
def Zg9(ae:P×List (Nat×En)->Prop):S->Prop:=λ(s0:S)=> ∃(g:List ak) (e_1:List fH) (k:Int),s0=S.mk 121 (p7::AH g::Cd e_1::w7 k::Zg4) (xe e_1)/\Jl g k/\ ∀(L:List ak) (n:Int),Mb g k L n->Zg8 L e_1 k n ae
def Zg3(bT:Int):Bool:=decide (Z9<=(1:Int)+Int.tmod bT (3:Int)/\(1:Int)+Int.tmod bT (3:Int)<=Za)
def Zg2(bz:List cj)(bT:Int):S:=S.mk 121 (L4 bz::ZfQ bT::p7::(6,ZY)::pU) [(0,En.mk 0 none (Obj.arr (41:TypeId) false []))]
theorem qhX(m:List cj)(r:Int)(ae:P×List (Nat×En)->Prop):(Zfr/\Zo/\ ∃(bz:List cj) (bT:Int),Zg2 m r=Zg2 bz bT/\List.length bz<=2000000/\ ∀(p:List cj),p=s6 bz-> ∃(m:List cj),[P.d (D.sl 6 (List.take (List.length p) (List.map oa p)))]=Zfz m/\Zo/\AQ m/\(∃(l:List ak),[ZfB]=jl l/\Zo/\(SmS l/\XO l)/\ ∀(e:List fH),e=FJ l->ob (Zel bT) (ob (Zg3 bT) (Zg9 ae (Zgb e bT)\/Zgc ae (Zgb e bT))))/\ ∀(g:List ak),DB m g-> ∃(l:List ak),jl g=jl l/\Zo/\(SmS l/\XO l)/\ ∀(e:List fH),e=FJ l->ob (Zel bT) (ob (Zg3 bT) (Zg9 ae (S.mk 121 (p7::AH g::Cd e::Zga bT) (xe e))\/Zgc ae (S.mk 121 (p7::AH g::Cd e::Zga bT) (xe e)))))=(aJ [(9,AU),(11,qhx),(15,qhM),(17,sa),(18,LX)] [(6,ah (aK 6 6) qhW),(15,ah (aK 6 15) XX),(21,ah (aK 6 21) XY),(28,ah (aK 6 28) XZ)] 6 [.d (.sl 6 (m.map oa)),.d (uE r)] []) ae:=by kernel_rfl
end Pi
