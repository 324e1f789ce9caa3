/- The texts Rp RpH Rm RmH Hi6 Hi6H Ro Vw2 Vw2H RoH HgP ElP GnP Gn2 Gn1 Gn1H Gn2H Gn3 HlP Hi7 Hi7H W20. -/
import Derived.Test.YtngoddkencoalaaGreatDoorEbv
import Derived.Lib.LaidTab
import Derived.Lib.LaidU8T
import Derived.Stop.LaidErr
import Derived.Shelf.Vars
import Derived.Lay
import Derived.Deep.DeepHandedRow
import Derived.SevenTiedAt
import Derived.ProofKit
import Derived.Test.YtngoddkencoalaaGreatDoorRows
namespace Pi
open Go Go.Proofs
set_option maxRecDepth 100000
set_option maxHeartbeats 0
def nQ(x:Td):D:= .agg [iE x.1.1,iE x.1.2.1,iE x.1.2.2,iE x.2.1.1,iE x.2.1.2.1,iE x.2.1.2.2,iE x.2.2.1.1,iE x.2.2.1.2.1,iE x.2.2.1.2.2,.str x.2.2.2.1,.bool x.2.2.2.2]
abbrev rr(z:Bool)(l:List Td):Obj:= .arr 155 z (l.map nQ)
abbrev rsA(a:List av)(l:List Pl)(s:List Td)(i:Int):S:=⟨93,[(0,cX a),(1,eM l),(5,.sl 0 0 s.length),(6,iD i)],[(0,⟨0,none,rr false s⟩)]⟩
abbrev rsB(a:List av)(l:List Pl)(s:List Td)(i:Int)(h:Bool)(k:Int):S:=⟨93,[(0,cX a),(1,eM l),(5,.sl 0 0 s.length),(6,iD i),(7,.d (.bool h)),(8,iD k)],[(0,⟨0,none,rr false s⟩)]⟩
abbrev rsC(a:List av)(l:List Pl)(s:List Td)(n:Nat)(i k:Int):S:=⟨93,[(0,cX a),(1,eM l),(5,.sl 0 0 n),(6,iD i),(9,iD k)],[(0,⟨0,none,rr false s⟩)]⟩
def sR(s:List Td)(k:Int):D:=D.nth (List.map nQ s) (Zg k)
def Wr(k:Int)(s:List Td):Bool:=decide (Zg k<List.length (List.map nQ s))
def EU(s:List Td):Nat×En:=(0,En.mk 0 none (Obj.arr (155:TypeId) false (List.map nQ s)))
def Ws(s:List Td):List (Nat×En):=[EU s]
def Ke(s:List Td):Nat×P:=(5,P.sl 0 0 (List.length s))
def EV(l:List Pl):Nat×P:=(1,lZ l)
theorem qbY(a:List av)(l:List Pl)(s:List Td)(i:Int)(h:Bool)(k:Int)(ae:PX×S->Prop):(bif decide (k<(↑(List.length s):Int)) then bif h then bif Zj k then ae (PX.normal,S.mk 93 (Eb a::EV l::Ke s::ZK i::(7,ZO)::oL k) (Ws s)) else False else bif decide ((0:Int)<=k/\k<(↑(List.length s):Int)) then bif Wr k s then bif cx PR (155:TypeId) (sR s k) then bif NP i a then bif xv a i then bif Zj k then ae (PX.normal,S.mk 93 (Eb a::EV l::Ke s::ZK i::(7,P.d (D.bool (D.aj (D.ar (sR s k) 0)==JI a i&&(D.aj (D.ar (sR s k) 1)==JH a i&&true)&&(D.aj (D.ar (sR s k) 2)==JG a i&&true))))::oL k) (Ws s)) else False else False else False else False else False else False else ae (PX.exit 2,S.mk 93 [Eb a,EV l,Ke s,ZK i,qT h] (Ws s)))=(aD [] [] 85 7 (rsB a l s i h k)) ae:=by kernel_rfl
def qeP:S->K (PX×S):=λs ae=> ∃(a:List av) (l:List Pl) (t:List Td) (i:Int) (hi:i.toNat<a.length),s=rsB a l t i false 0/\(t.length<=1000000/\0<=i/\i<a.length)/\ ∀b,b=(t.any λx=>x.1==a[i.toNat])->ae (.exit 2,⟨93,[(0,cX a),(1,eM l),(5,.sl 0 0 t.length),(6,iD i),(7,.d (.bool b))],[(0,⟨0,none,rr false t⟩)]⟩)
def Zao(s:List Td)(k:Int):D:=D.int .i64 (D.aj (D.ar (sR s k) 8))
def Zan(s:List Td)(k:Int):D:=D.int .i64 (D.aj (D.ar (sR s k) 7))
def Zam(s:List Td)(k:Int):D:=D.int .i64 (D.aj (D.ar (sR s k) 6))
def Zal(s:List Td)(k:Int):D:=D.int .i64 (D.aj (D.ar (sR s k) 5))
def Zak(s:List Td)(k:Int):D:=D.int .i64 (D.aj (D.ar (sR s k) 4))
def Zaj(s:List Td)(k:Int):D:=D.int .i64 (D.aj (D.ar (sR s k) 3))
def Zap(s:List Td)(k:Int):List D:=[Zaj s k,Zak s k,Zal s k,Zam s k,Zan s k,Zao s k,D.str (D.eO (D.ar (sR s k) 9)),D.bool (D.ff (D.ar (sR s k) 10))]
def Zaq(s:List Td)(k:Int):List D:=D.int .i64 (D.aj (D.ar (sR s k) 0))::D.int .i64 (D.aj (D.ar (sR s k) 1))::D.int .i64 (D.aj (D.ar (sR s k) 2))::Zap s k
def Hp(s:List Td)(k:Int):D:=D.nth (List.map nQ s) (Zc k)
def Zar(s:List Td)(k:Int):List D:=List.set (List.map nQ s) (Zg k) (D.aV (D.agg (Zaq s k)) [D.int .i64 (D.aj (D.ar (Hp s k) 0)),D.int .i64 (D.aj (D.ar (Hp s k) 1)),D.int .i64 (D.aj (D.ar (Hp s k) 2)),D.int .i64 (D.aj (D.ar (Hp s k) 3)),D.int .i64 (D.aj (D.ar (Hp s k) 4)),D.int .i64 (D.aj (D.ar (Hp s k) 5)),D.int .i64 (D.aj (D.ar (Hp s k) 6)),D.int .i64 (D.aj (D.ar (Hp s k) 7)),D.int .i64 (D.aj (D.ar (Hp s k) 8)),D.str (D.eO (D.ar (Hp s k) 9)),D.bool (D.ff (D.ar (Hp s k) 10))])
def OA(s:List Td)(k:Int):D:=D.nth (Zar s k) (Zc k)
theorem qhO(a:List av)(l:List Pl)(s:List Td)(n:Nat)(i k:Int)(ae:PX×S->Prop):(bif Zr k then bif lY k n then bif Wr k s then bif cx PR (155:TypeId) (sR s k) then bif Zb k then bif uJ k n then bif decide (Zc k<List.length (List.map nQ s)) then bif cx PR (155:TypeId) (Hp s k) then∃(t:Int) (r:Int) (aI:Int) (t':Int) (r':Int) (i':Int),[P.d (D.agg [D.int .i64 (D.aj (D.ar (sR s k) 0)),D.int .i64 (D.aj (D.ar (sR s k) 1)),D.int .i64 (D.aj (D.ar (sR s k) 2))]),P.d (D.agg [D.int .i64 (D.aj (D.ar (Hp s k) 0)),D.int .i64 (D.aj (D.ar (Hp s k) 1)),D.int .i64 (D.aj (D.ar (Hp s k) 2))])]=Tm t r aI t' r' i'/\Zx/\bif Tk t r aI t' r' i' then bif Zb k then bif Zb k then bif uJ k n then bif decide (Zc k<List.length (List.map nQ s)) then bif cx PR (155:TypeId) (Hp s k) then bif lY k n then bif Wr k s then bif cx PR (155:TypeId) (sR s k) then bif lY k n then bif Wr k s then bif cx PR (155:TypeId) (sR s k) then bif uJ k n then bif decide (Zc k<List.length (Zar s k)) then bif cx PR (155:TypeId) (OA s k) then bif Zb k then ae (PX.normal,S.mk 93 (Eb a::EV l::ZC n::ZK i::Tt k) [(0,En.mk 0 none (Obj.arr (155:TypeId) false (List.set (Zar s k) (Zc k) (D.aV (D.agg [D.int .i64 (D.aj (D.ar (OA s k) 0)),D.int .i64 (D.aj (D.ar (OA s k) 1)),D.int .i64 (D.aj (D.ar (OA s k) 2)),D.int .i64 (D.aj (D.ar (OA s k) 3)),D.int .i64 (D.aj (D.ar (OA s k) 4)),D.int .i64 (D.aj (D.ar (OA s k) 5)),D.int .i64 (D.aj (D.ar (OA s k) 6)),D.int .i64 (D.aj (D.ar (OA s k) 7)),D.int .i64 (D.aj (D.ar (OA s k) 8)),D.str (D.eO (D.ar (OA s k) 9)),D.bool (D.ff (D.ar (OA s k) 10))]) (Zaq s k)))))]) else False else False else False else False else False else False else False else False else False else False else False else False else False else False else False else ae (PX.exit 4,S.mk 93 (Eb a::EV l::ZC n::Cj i) (Ws s)) else False else False else False else False else False else False else False else ae (PX.exit 4,S.mk 93 (Eb a::EV l::ZC n::Cj i) (Ws s)))=(aD [(88,jc)] [] 85 13 (rsC a l s n i k)) ae:=by kernel_rfl
def qeQ:S->K (PX×S):=λs ae=> ∃a l t x n i k,s=rsC a l (t++[x]) n i k/\(k=(t.length:Int)/\n=t.length+1/\t.length<=1000000)/\ ∀t',t'=cJ ltT t x->ae (.exit 4,rsA a l t' i)
theorem qbZ(a:List av)(l:List Pl)(s:List Td)(i:Int)(ae:PX×S->Prop):(bif decide (i<(↑(List.length (List.map bH a)):Int)) then bif decide (i<(↑(List.length (List.map bP l)):Int)) then∃(k7:List av),∃(au:List Pl),∃(t:List Td),∃(aI:Int),∃(hi:Int.toNat aI<List.length k7),S.mk 93 [(0,P.d (D.sl 3 (List.map bH a))),(1,P.d (D.sl 8 (List.map bP l))),(5,P.sl 0 0 (List.length s)),(6,P.d (D.int IntKind.i64 i)),(7,P.d (D.bool false)),(8,P.d (D.int IntKind.i64 (0:Int)))] [(0,En.mk 0 none (Obj.arr 155 false (List.map nQ s)))]=S.mk 93 [(0,P.d (D.sl 3 (List.map bH k7))),(1,P.d (D.sl 8 (List.map bP au))),(5,P.sl 0 0 (List.length t)),(6,P.d (D.int IntKind.i64 aI)),(7,P.d (D.bool false)),(8,P.d (D.int IntKind.i64 (0:Int)))] [(0,En.mk 0 none (Obj.arr 155 false (List.map nQ t)))]/\(List.length t<=1000000/\(0:Int)<=aI/\aI<(↑(List.length k7):Int))/\ ∀(b:Bool),(b=List.any t λ(x:Td)=>Prod.fst x==k7[Int.toNat aI])->bif b then bif decide ((-9223372036854775808:Int)<=aI+(1:Int)/\aI+(1:Int)<=(9223372036854775807:Int)) then ae (PX.normal,S.mk 93 [(0,P.d (D.sl 3 (List.map bH k7))),(1,P.d (D.sl 8 (List.map bP au))),(5,P.sl 0 0 (List.length t)),(6,P.d (D.int IntKind.i64 (aI+(1:Int))))] [(0,En.mk 0 none (Obj.arr 155 false (List.map nQ t)))]) else False else bif decide ((0:Int)<=aI/\aI<(↑(List.length (List.map bH k7)):Int)) then bif cx PR 50 (D.nth (List.map bH k7) (Int.toNat aI)) then bif decide ((0:Int)<=aI/\aI<(↑(List.length (List.map bP au)):Int)) then bif cx PR 104 (D.nth (List.map bP au) (Int.toNat aI)) then bif Nat.ble (List.length t) (List.length (List.map nQ t))&&aO (List.length t+List.length [D.agg [D.int IntKind.i64 (D.aj (D.ar (D.nth (List.map bH k7) (Int.toNat aI)) 0)),D.int IntKind.i64 (D.aj (D.ar (D.nth (List.map bH k7) (Int.toNat aI)) 1)),D.int IntKind.i64 (D.aj (D.ar (D.nth (List.map bH k7) (Int.toNat aI)) 2)),D.int IntKind.i64 (D.aj (D.ar (D.nth (List.map bP au) (Int.toNat aI)) 0)),D.int IntKind.i64 (D.aj (D.ar (D.nth (List.map bP au) (Int.toNat aI)) 1)),D.int IntKind.i64 (D.aj (D.ar (D.nth (List.map bP au) (Int.toNat aI)) 2)),D.int IntKind.i64 (D.aj (D.ar (D.nth (List.map bP au) (Int.toNat aI)) 3)),D.int IntKind.i64 (D.aj (D.ar (D.nth (List.map bP au) (Int.toNat aI)) 4)),D.int IntKind.i64 (D.aj (D.ar (D.nth (List.map bP au) (Int.toNat aI)) 5)),D.str (D.eO (D.ar (D.nth (List.map bP au) (Int.toNat aI)) 6)),D.bool (D.ff (D.ar (D.nth (List.map bP au) (Int.toNat aI)) 7))]]) 96 then bif decide ((-9223372036854775808:Int)<=(↑(List.length t+List.length [D.agg [D.int IntKind.i64 (D.aj (D.ar (D.nth (List.map bH k7) (Int.toNat aI)) 0)),D.int IntKind.i64 (D.aj (D.ar (D.nth (List.map bH k7) (Int.toNat aI)) 1)),D.int IntKind.i64 (D.aj (D.ar (D.nth (List.map bH k7) (Int.toNat aI)) 2)),D.int IntKind.i64 (D.aj (D.ar (D.nth (List.map bP au) (Int.toNat aI)) 0)),D.int IntKind.i64 (D.aj (D.ar (D.nth (List.map bP au) (Int.toNat aI)) 1)),D.int IntKind.i64 (D.aj (D.ar (D.nth (List.map bP au) (Int.toNat aI)) 2)),D.int IntKind.i64 (D.aj (D.ar (D.nth (List.map bP au) (Int.toNat aI)) 3)),D.int IntKind.i64 (D.aj (D.ar (D.nth (List.map bP au) (Int.toNat aI)) 4)),D.int IntKind.i64 (D.aj (D.ar (D.nth (List.map bP au) (Int.toNat aI)) 5)),D.str (D.eO (D.ar (D.nth (List.map bP au) (Int.toNat aI)) 6)),D.bool (D.ff (D.ar (D.nth (List.map bP au) (Int.toNat aI)) 7))]]):Int)-(1:Int)/\(↑(List.length t+List.length [D.agg [D.int IntKind.i64 (D.aj (D.ar (D.nth (List.map bH k7) (Int.toNat aI)) 0)),D.int IntKind.i64 (D.aj (D.ar (D.nth (List.map bH k7) (Int.toNat aI)) 1)),D.int IntKind.i64 (D.aj (D.ar (D.nth (List.map bH k7) (Int.toNat aI)) 2)),D.int IntKind.i64 (D.aj (D.ar (D.nth (List.map bP au) (Int.toNat aI)) 0)),D.int IntKind.i64 (D.aj (D.ar (D.nth (List.map bP au) (Int.toNat aI)) 1)),D.int IntKind.i64 (D.aj (D.ar (D.nth (List.map bP au) (Int.toNat aI)) 2)),D.int IntKind.i64 (D.aj (D.ar (D.nth (List.map bP au) (Int.toNat aI)) 3)),D.int IntKind.i64 (D.aj (D.ar (D.nth (List.map bP au) (Int.toNat aI)) 4)),D.int IntKind.i64 (D.aj (D.ar (D.nth (List.map bP au) (Int.toNat aI)) 5)),D.str (D.eO (D.ar (D.nth (List.map bP au) (Int.toNat aI)) 6)),D.bool (D.ff (D.ar (D.nth (List.map bP au) (Int.toNat aI)) 7))]]):Int)-(1:Int)<=(9223372036854775807:Int)) then∃(a:List av),∃(l:List Pl),∃(qa:List Td),∃(x:Td),∃(n:Nat),∃(i:Int),∃(k:Int),S.mk 93 [(0,P.d (D.sl 3 (List.map bH k7))),(1,P.d (D.sl 8 (List.map bP au))),(5,P.sl 0 0 (List.length t+List.length [D.agg [D.int IntKind.i64 (D.aj (D.ar (D.nth (List.map bH k7) (Int.toNat aI)) 0)),D.int IntKind.i64 (D.aj (D.ar (D.nth (List.map bH k7) (Int.toNat aI)) 1)),D.int IntKind.i64 (D.aj (D.ar (D.nth (List.map bH k7) (Int.toNat aI)) 2)),D.int IntKind.i64 (D.aj (D.ar (D.nth (List.map bP au) (Int.toNat aI)) 0)),D.int IntKind.i64 (D.aj (D.ar (D.nth (List.map bP au) (Int.toNat aI)) 1)),D.int IntKind.i64 (D.aj (D.ar (D.nth (List.map bP au) (Int.toNat aI)) 2)),D.int IntKind.i64 (D.aj (D.ar (D.nth (List.map bP au) (Int.toNat aI)) 3)),D.int IntKind.i64 (D.aj (D.ar (D.nth (List.map bP au) (Int.toNat aI)) 4)),D.int IntKind.i64 (D.aj (D.ar (D.nth (List.map bP au) (Int.toNat aI)) 5)),D.str (D.eO (D.ar (D.nth (List.map bP au) (Int.toNat aI)) 6)),D.bool (D.ff (D.ar (D.nth (List.map bP au) (Int.toNat aI)) 7))]])),(6,P.d (D.int IntKind.i64 aI)),(9,P.d (D.int IntKind.i64 ((↑(List.length t+List.length [D.agg [D.int IntKind.i64 (D.aj (D.ar (D.nth (List.map bH k7) (Int.toNat aI)) 0)),D.int IntKind.i64 (D.aj (D.ar (D.nth (List.map bH k7) (Int.toNat aI)) 1)),D.int IntKind.i64 (D.aj (D.ar (D.nth (List.map bH k7) (Int.toNat aI)) 2)),D.int IntKind.i64 (D.aj (D.ar (D.nth (List.map bP au) (Int.toNat aI)) 0)),D.int IntKind.i64 (D.aj (D.ar (D.nth (List.map bP au) (Int.toNat aI)) 1)),D.int IntKind.i64 (D.aj (D.ar (D.nth (List.map bP au) (Int.toNat aI)) 2)),D.int IntKind.i64 (D.aj (D.ar (D.nth (List.map bP au) (Int.toNat aI)) 3)),D.int IntKind.i64 (D.aj (D.ar (D.nth (List.map bP au) (Int.toNat aI)) 4)),D.int IntKind.i64 (D.aj (D.ar (D.nth (List.map bP au) (Int.toNat aI)) 5)),D.str (D.eO (D.ar (D.nth (List.map bP au) (Int.toNat aI)) 6)),D.bool (D.ff (D.ar (D.nth (List.map bP au) (Int.toNat aI)) 7))]]):Int)-(1:Int))))] [(0,En.mk 0 none (Obj.arr 155 false (List.take (List.length t) (List.map nQ t)++[D.agg [D.int IntKind.i64 (D.aj (D.ar (D.nth (List.map bH k7) (Int.toNat aI)) 0)),D.int IntKind.i64 (D.aj (D.ar (D.nth (List.map bH k7) (Int.toNat aI)) 1)),D.int IntKind.i64 (D.aj (D.ar (D.nth (List.map bH k7) (Int.toNat aI)) 2)),D.int IntKind.i64 (D.aj (D.ar (D.nth (List.map bP au) (Int.toNat aI)) 0)),D.int IntKind.i64 (D.aj (D.ar (D.nth (List.map bP au) (Int.toNat aI)) 1)),D.int IntKind.i64 (D.aj (D.ar (D.nth (List.map bP au) (Int.toNat aI)) 2)),D.int IntKind.i64 (D.aj (D.ar (D.nth (List.map bP au) (Int.toNat aI)) 3)),D.int IntKind.i64 (D.aj (D.ar (D.nth (List.map bP au) (Int.toNat aI)) 4)),D.int IntKind.i64 (D.aj (D.ar (D.nth (List.map bP au) (Int.toNat aI)) 5)),D.str (D.eO (D.ar (D.nth (List.map bP au) (Int.toNat aI)) 6)),D.bool (D.ff (D.ar (D.nth (List.map bP au) (Int.toNat aI)) 7))]])))]=S.mk 93 [(0,P.d (D.sl 3 (List.map bH a))),(1,P.d (D.sl 8 (List.map bP l))),(5,P.sl 0 0 n),(6,P.d (D.int IntKind.i64 i)),(9,P.d (D.int IntKind.i64 k))] [(0,En.mk 0 none (Obj.arr 155 false (List.map nQ (qa++[x]))))]/\(k=(↑(List.length qa):Int)/\n=List.length qa+1/\List.length qa<=1000000)/\ ∀(t':List Td),t'=cJ ltT qa x->bif decide ((-9223372036854775808:Int)<=i+(1:Int)/\i+(1:Int)<=(9223372036854775807:Int)) then ae (PX.normal,S.mk 93 [(0,P.d (D.sl 3 (List.map bH a))),(1,P.d (D.sl 8 (List.map bP l))),(5,P.sl 0 0 (List.length t')),(6,P.d (D.int IntKind.i64 (i+(1:Int))))] [(0,En.mk 0 none (Obj.arr 155 false (List.map nQ t')))]) else False else False else False else False else False else False else False else ae (PX.exit 0,S.mk 93 [(5,P.sl 0 0 (List.length s))] [(0,En.mk 0 none (Obj.arr 155 false (List.map nQ s)))]) else ae (PX.exit 0,S.mk 93 [(5,P.sl 0 0 (List.length s))] [(0,En.mk 0 none (Obj.arr 155 false (List.map nQ s)))]))=(aD [] [(7,ah (aL 85 7) qeP),(13,ah (aL 85 13) qeQ)] 85 3 (rsA a l s i)) ae:=by kernel_rfl
def qeR:S->K (PX×S):=λs ae=> ∃a l,s=rsA a l [] 0/\(a.length<=1000000/\l.length=a.length)/\ ∀t,t=J9 a l->ae (.exit 0,⟨93,[(5,.sl 0 0 t.length)],[(0,⟨0,none,rr false t⟩)]⟩)
def Zat(a:List av)(l:List Pl):S:=S.mk 93 (Eb a::EV l::TJ) [(0,En.mk 0 none (Obj.arr (155:TypeId) false []))]
theorem qhP(a:List av)(l:List Pl)(ae:P×List (Nat×En)->Prop):(∃(k7:List av) (au:List Pl),Zat a l=Zat k7 au/\(qp k7/\km au=iq k7)/\ ∀(t:List Td),t=J9 k7 au->ae (P.sl 0 0 (List.length t),Ws t))=(aJ [] [(3,ah (aL 85 3) qeR)] 85 [cX a,eM l] []) ae:=by kernel_rfl
def qeS:bm:=λps R ae=> ∃a l,ps=[cX a,eM l]/\R=[]/\(a.length<=1000000/\l.length=a.length)/\ ∀t,t=J9 a l->ae (.sl 0 0 t.length,[(0,⟨0,none,rr false t⟩)])
def qeT:bm:=λps R ae=> ∃l x y,ps=[.sl 0 0 l.length,.d (bH x),.d (bH y)]/\R=Ch false l/\l.length<=1000000/\ ∀b,b=within l x y->ae (.d (.bool b),Ch false l)
abbrev rpA(t:List Td)(o:List Pl)(i:Int):S:=⟨96,[(5,.sl 0 0 t.length),(6,.sl 1 0 o.length),(7,iD i)],[(0,⟨0,none,rr false t⟩),(1,⟨0,none,qq false o⟩)]⟩
abbrev rpB(t:List Td)(o:List Pl)(m:Nat)(i k:Int):S:=⟨96,[(5,.sl 0 0 t.length),(6,.sl 1 0 m),(7,iD i),(10,iD k)],[(0,⟨0,none,rr false t⟩),(1,⟨0,none,qq false o⟩)]⟩
def Zax(ae:PX×S->Prop)(t:List Td)(m:Nat)(i:Int)(o:List Pl):Prop:=ae (PX.exit 2,S.mk 96 [Ke t,J6 m,qU i] (EU t::Hc o))
def Mg(o:List Pl)(k:Int):D:=D.nth (iG o) (Zc k)
def Zav(o:List Pl)(k:Int):List D:=List.set (iG o) (Zg k) (D.aV (D.agg (YQ o k)) [D.int .i64 (D.aj (D.ar (Mg o k) 0)),D.int .i64 (D.aj (D.ar (Mg o k) 1)),D.int .i64 (D.aj (D.ar (Mg o k) 2)),D.int .i64 (D.aj (D.ar (Mg o k) 3)),D.int .i64 (D.aj (D.ar (Mg o k) 4)),D.int .i64 (D.aj (D.ar (Mg o k) 5)),D.str (D.eO (D.ar (Mg o k) 6)),D.bool (D.ff (D.ar (Mg o k) 7))])
def Wt(o:List Pl)(k:Int):D:=D.nth (Zav o k) (Zc k)
theorem qhQ(t:List Td)(o:List Pl)(m:Nat)(i k:Int)(ae:PX×S->Prop):(bif Zr k then bif lY k m then bif HV k o then bif ri o k then bif Zb k then bif uJ k m then bif decide (Zc k<s5 o) then bif cx PR (104:TypeId) (Mg o k) then∃(qa:Int) (r:Int) (aI:Int) (t':Int) (r':Int) (i':Int),[J4 o k,P.d (D.agg [D.int .i64 (D.aj (D.ar (Mg o k) 0)),D.int .i64 (D.aj (D.ar (Mg o k) 1)),D.int .i64 (D.aj (D.ar (Mg o k) 2))])]=Tm qa r aI t' r' i'/\Zx/\bif Tk qa r aI t' r' i' then bif Zb k then bif Zb k then bif uJ k m then bif decide (Zc k<s5 o) then bif cx PR (104:TypeId) (Mg o k) then bif lY k m then bif HV k o then bif ri o k then bif lY k m then bif HV k o then bif ri o k then bif uJ k m then bif decide (Zc k<List.length (Zav o k)) then bif cx PR (104:TypeId) (Wt o k) then bif Zb k then ae (PX.normal,S.mk 96 (Ke t::J6 m::qU i::Z8J k) [EU t,(1,En.mk 0 none (Obj.arr (104:TypeId) false (List.set (Zav o k) (Zc k) (D.aV (D.agg [D.int .i64 (D.aj (D.ar (Wt o k) 0)),D.int .i64 (D.aj (D.ar (Wt o k) 1)),D.int .i64 (D.aj (D.ar (Wt o k) 2)),D.int .i64 (D.aj (D.ar (Wt o k) 3)),D.int .i64 (D.aj (D.ar (Wt o k) 4)),D.int .i64 (D.aj (D.ar (Wt o k) 5)),D.str (D.eO (D.ar (Wt o k) 6)),D.bool (D.ff (D.ar (Wt o k) 7))]) (YQ o k)))))]) else False else False else False else False else False else False else False else False else False else False else False else False else False else False else False else Zax ae t m i o else False else False else False else False else False else False else False else Zax ae t m i o)=(aD [(88,jc)] [] 55 14 (rpB t o m i k)) ae:=by kernel_rfl
def qeU:S->K (PX×S):=λs ae=> ∃t o x m i k,s=rpB t (o++[x]) m i k/\(k=(o.length:Int)/\m=o.length+1/\o.length<=1000000)/\ ∀o',o'=cJ ltN o x->ae (.exit 2,rpA t o' i)
def ZaA(o:List Pl)(t:List Td)(i:Int):Nat:=km o+List.length [D.agg (Zap t i)]
def Zaz(t:List Td)(i:Int):List P:=[P.d (D.agg [Zaj t i,Zak t i,Zal t i])]
def Zay(t:List Td)(o:List Pl)(i:Int):List (Nat×P):=Ke t::(6,P.sl 1 0 (km o))::ZL i
theorem qb0(t:List Td)(o:List Pl)(i:Int)(ae:PX×S->Prop):(bif decide (i<(↑(List.length t):Int)) then bif decide ((0:Int)<=i/\i<(↑(List.length t):Int)) then bif Wr i t then bif cx PR (155:TypeId) (sR t i) then bif D.aj (D.ar (sR t i) 3)==(0:Int)&&(D.aj (D.ar (sR t i) 4)==(0:Int)&&true)&&(D.aj (D.ar (sR t i) 5)==(0:Int)&&true) then bif Zj i then ae (PX.normal,S.mk 96 (Zay t o i) (EU t::Hc o)) else False else∃(l:List Pl) (x:av) (y:av),uj o::P.d (D.agg [Zam t i,Zan t i,Zao t i])::Zaz t i=uj l::ve x::jf y/\YR o=YR l/\oK l/\ ∀(b:Bool),b=within l x y->bif b then bif Zj i then ae (PX.normal,S.mk 96 (Zay t o i) (EU t::Hc l)) else False else∃(au:List Pl) (x:av),uj o::Zaz t i=uj au::jf x/\YR l=YR au/\oK au/\bif decide (eQ au x>=(0:Int)) then bif decide ((0:Int)<=eQ au x/\eQ au x<(↑(km o):Int)) then bif Z6W au x then bif cx PR (104:TypeId) (EM au x) then bif decide ((0:Int)<=eQ au x/\eQ au x<(↑(km o):Int)) then bif Z6W au x then bif cx PR (104:TypeId) (EM au x) then bif Zj i then ae (PX.normal,S.mk 96 (Zay t o i) [EU t,(1,En.mk 0 none (Obj.arr (104:TypeId) false (List.set (iG au) (Int.toNat (eQ au x)) (D.aV (D.agg [D.int .i64 (D.aj (D.ar (EM au x) 0)),D.int .i64 (D.aj (D.ar (EM au x) 1)),D.int .i64 (D.aj (D.ar (EM au x) 2)),D.int .i64 (D.aj (D.ar (EM au x) 3)),D.int .i64 (D.aj (D.ar (EM au x) 4)),D.int .i64 (D.aj (D.ar (EM au x) 5)),D.str (D.eO (D.ar (EM au x) 6)),D.bool (D.ff (D.ar (EM au x) 7))]) [Zaj t i,Zak t i,Zal t i,Zam t i,Zan t i,Zao t i,D.str (D.eO (D.ar (sR t i) 9)),D.bool (D.ff (D.ar (EM au x) 7))]))))]) else False else False else False else False else False else False else False else bif Nat.ble (km o) (s5 au)&&aO (ZaA o t i) 72 then bif decide (Z9<=(↑(ZaA o t i):Int)-(1:Int)/\(↑(ZaA o t i):Int)-(1:Int)<=Za) then∃(qa:List Td) (aP:List Pl) (x:Pl) (m:Nat) (aI:Int) (k:Int),S.mk 96 [Ke t,(6,P.sl 1 0 (ZaA o t i)),qU i,(10,P.d (D.int .i64 ((↑(ZaA o t i):Int)-(1:Int))))] [EU t,(1,En.mk 0 none (Obj.arr (104:TypeId) false (List.take (km o) (iG au)++[D.agg (Zap t i)])))]=S.mk 96 [Ke qa,J6 m,qU aI,(10,P.d (Zt k))] [EU qa,(1,En.mk 0 none (Obj.arr (104:TypeId) false (List.map bP (aP++[x]))))]/\(k=(↑(km aP):Int)/\m=km aP+1/\oK aP)/\ ∀(o':List Pl),o'=cJ ltN aP x->bif Zj aI then ae (PX.normal,S.mk 96 (Zay qa o' aI) (EU qa::Hc o')) else False else False else False else False else False else False else ae (PX.exit 0,S.mk 96 [(6,uj o)] (HX o)))=(aD [(86,qeT),(87,Ha)] [(14,ah (aL 55 14) qeU)] 55 4 (rpA t o i)) ae:=by kernel_rfl
def qeV:S->K (PX×S):=λs ae=> ∃t,s=rpA t [] 0/\t.length<=1000000/\ ∀o,o=Og t->ae (.exit 0,⟨96,[(6,.sl 0 0 o.length)],[(0,⟨0,none,qq false o⟩)]⟩)
def ZaB(t:List Td):S:=S.mk 96 (Ke t::Z7V) [EU t,(1,An)]
theorem qjN(a:List av)(l:List Pl)(ae:P×List (Nat×En)->Prop):(∃(k7:List av) (au:List Pl),[ma a,lZ l]=[ma k7,lZ au]/\Zx/\(qp k7/\km au=iq k7)/\ ∀(t:List Td),t=J9 k7 au-> ∃(qa:List Td),ZaB t=ZaB qa/\List.length qa<=1000000/\ ∀(o:List Pl),o=Og qa->ae (uj o,HX o))=(aJ [(85,qeS)] [(4,ah (aL 55 4) qeV)] 55 [cX a,eM l] []) ae:=by kernel_rfl
def qeW:bm:=λps R ae=> ∃a l,ps=[cX a,eM l]/\R=[]/\(a.length<=1000000/\l.length=a.length)/\ ∀o,o=Og (J9 a l)->ae (.sl 0 0 o.length,[(0,⟨0,none,qq false o⟩)])
theorem Hq(x:Td):cx PR 155 (nQ x)=true:=by kernel_rfl
section
variable{X:XF}
theorem qhR:FD X 86 qeT:=qbH.weaken λps R ae h=>by obtain⟨l,x,y,rfl,rfl,hm,hp⟩:=h;exact⟨false,l,x,y,rfl,rfl,hm,hp⟩
theorem qay:LD X 85 7 (ah (aL 85 7) qeP):=LD.idx (H:=[]) (hk:=[]) (by kernel_rfl) (by kernel_rfl) .nil .nil
 (A:=List av×List Pl×List Td×Int×av) (B:=Bool) (λa b k=>rsB a.1 a.2.1 a.2.2.1 a.2.2.2.1 b k) (λa=>a.2.2.1.length) (λa k b=>(a.2.2.1.length<=1000000/\0<=a.2.2.2.1/\a.2.2.2.1<a.1.length/\D.nth (a.1.map bH) a.2.2.2.1.toNat=bH a.2.2.2.2)/\b=((a.2.2.1.take k).any λx=>x.1==a.2.2.2.2))
 (λa x=>x=(.exit 2,⟨93,[(0,cX a.1),(1,eM a.2.1),(5,.sl 0 0 a.2.2.1.length),(6,iD a.2.2.2.1),(7,.d (.bool (a.2.2.1.any λx=>x.1==a.2.2.2.2)))],[(0,⟨0,none,rr false a.2.2.1⟩)]⟩))
 (by
  rintro⟨a,l,t,i,y⟩ b k ae h0 uB dO ⟨⟨hm,oU,bR,hy⟩,hb⟩ hn ho
  try dsimp only at*
  (rw[<-qbY];delta fI qT Zg gD JG JH JI xv qf wz NP sR Wr EU Ws Zn oL ZO Zt ZK Ke iG lZ EV ma Eb Za Z9 Zj)
  have e1:D.nth (t.map nQ) k.toNat=nQ t[k.toNat]:=ay _ _ _ dO;have mb:(t.take (k.toNat+1)).any (λx=>x.1==y)=(b ||t[k.toNat].1==y):=by rw[zag dO,zck,hb];simp
  rw[e1,hy];generalize t[k.toNat]=z at*
  simp only[zaa];refine bz uB ?_;have v:(D.aj (D.ar (nQ z) 0)==D.aj (D.ar (bH y) 0)&&(D.aj (D.ar (nQ z) 1)==D.aj (D.ar (bH y) 1)&&true)&&(D.aj (D.ar (nQ z) 2)==D.aj (D.ar (bH y) 2)&&true))=(z.1==y):=EH z.1 y;rw[v];refine az (λvp=>ao (by omega) (hn true ⟨⟨hm,oU,bR,hy⟩,by rw[mb,vp,zce]⟩)) λuq=>ao ⟨h0,uB⟩ (ao (by first |exact dO |simpa using dO) (aq (Hq _) (ao ⟨oU,bR⟩ (aq (l6 _) (ao (by omega) (hn _ ⟨⟨hm,oU,bR,hy⟩,by rw[mb,uq,zbo]⟩)))))))
 (by
  rintro⟨a,l,t,i,y⟩ b k ae hk ⟨⟨hm,oU,bR,hy⟩,hb⟩ ho
  try dsimp only at*
  (rw[<-qbY];delta fI qT Zg gD JG JH JI xv qf wz NP sR Wr EU Ws Zn oL ZO Zt ZK Ke iG lZ EV ma Eb Za Z9 Zj)
  refine kA (by omega) (ho _ (λh=>by cases h) ?_);rw[hb,zaj])
 (by rintro s ae ⟨a,l,t,i,hi,rfl,⟨h1,h2,h3⟩,hp⟩;refine⟨(a,l,t,i,a[i.toNat]),false,rfl,⟨⟨h1,h2,h3,ay _ _ _ hi⟩,by simp⟩,?_⟩;rintro x rfl;exact hp _ rfl)
theorem qaz:LD X 85 13 (ah (aL 85 13) qeQ):=LD.ins (H:=[(88,jc)]) (hk:=[]) (by kernel_rfl) (by kernel_rfl) (.cons nz .nil) .nil
 (A:=List av×List Pl×Nat×Int) (α:=Td) (λa o k=>rsC a.1 a.2.1 o a.2.2.1 a.2.2.2 k) ltT (λa=>a.2.2.1) (λ_=>True) (λa o=>(.exit 4,⟨93,[(0,cX a.1),(1,eM a.2.1),(5,.sl 0 0 a.2.2.1),(6,iD a.2.2.2)],[(0,⟨0,none,rr false o⟩)]⟩)) (λ_ _ h=>by cases h)
 (by
  rintro⟨a,l,n,i⟩ o k ae _ h0 EO lX hk hz bX dz
  try dsimp only at*
  subst EO
  (rw[<-qhO];delta EU Ws Zt ZK Cj Zg sR Zao Zan Zam Zal Zak Zaj Zap Zaq Zs Tt ZB ZC iG lZ EV gD ma Eb Zc Hp Zar OA Tk Zx ZE HQ Tm uJ Za Z9 Zb Wr lY Zr)
  refine b7 (λhp=> ?_) λhp=>hz (by omega);have fh:k.toNat-1<o.length:=by omega
  have ek:(k-1).toNat=k.toNat-1:=by omega
  have e1:D.nth (o.map nQ) k.toNat=nQ o[k.toNat]:=ay _ _ _ hk;have e2:D.nth (o.map nQ) (k.toNat-1)=nQ o[k.toNat-1]:=ay _ _ _ fh;have bX:=bX hp;have dz:=dz hp;have vB:=jg nQ o k.toNat o[k.toNat] o[k.toNat-1];have e3: ∀z,D.nth ((o.map nQ).set k.toNat z) (k.toNat-1)=nQ o[k.toNat-1]:=λz=>by unfold D.nth;rw[zac,zaR (by omega)];simp[fh]
  rw[ek,e1,e2];simp only[e3];generalize o[k.toNat]=x at*
  generalize o[k.toNat-1]=y at*
  simp only[zaa,zbb] at dz⊢;have vC:0<=k/\k<(o.length:Int):=⟨h0,by omega⟩
  have vE:0<=k-1/\k-1<(o.length:Int):=⟨by omega,by omega⟩
  have hf:(-9223372036854775808:Int)<=k-1/\k-1<=9223372036854775807:=by omega
  refine ao vC (ao hk (aq (Hq _) (ao hf (ao vE (ao fh (aq (Hq _) ⟨(x.1).1,(x.1).2.1,(x.1).2.2,(y.1).1,(y.1).2.1,(y.1).2.2,rfl,rfl,b7 (λh=> ?_) λh=>bX (by rw[<-zaX];exact λh2=>h ((ij (x.1) (y.1)).2 h2))⟩))))));have hy:=dz ((ij (x.1) (y.1)).1 h);simp only[rsC,rr] at hy;rw[<-vB] at hy;refine ao hf (ao hf (ao vE (ao fh (aq (Hq _) (ao vC (ao hk (aq (Hq _) (ao vC (ao hk (aq (Hq _) (ao vE (ao fh (aq (Hq _) (ao hf ?_))))))))))))));exact hy)
 (by rintro s ae ⟨a,l,o,x,n,i,k,rfl,⟨hk,hn,ho⟩,hp⟩;refine⟨(a,l,n,i),o,x,k,rfl,hk,trivial,⟨hn.symm,ho⟩,?_⟩;have:=hp _ rfl;rw[rsA,jK,<-hn] at this;exact this)
theorem qaA{a:List av}{l:List Pl}{i:Nat}(h:i<a.length)(h2:i<l.length):J9 (a.take (i+1)) (l.take (i+1))=Wf (J9 (a.take i) (l.take i)) (a[i],l[i]):=by unfold J9;rw[zag h,zag h2,List.zip_append (by rw[zay,zay];omega),za3];rfl
theorem qaB:LD X 85 3 (ah (aL 85 3) qeR):=LD.idx (H:=[]) (hk:=[(7,ah (aL 85 7) qeP),(13,ah (aL 85 13) qeQ)]) (by kernel_rfl) (by kernel_rfl) .nil (.cons qay (.cons qaz .nil))
 (A:=List av×List Pl) (B:=List Td) (λa t i=>rsA a.1 a.2 t i) (λa=>a.1.length) (λa i t=>(a.1.length<=1000000/\a.2.length=a.1.length)/\t=J9 (a.1.take i) (a.2.take i))
 (λa x=>x=(.exit 0,⟨93,[(5,.sl 0 0 (J9 a.1 a.2).length)],[(0,⟨0,none,rr false (J9 a.1 a.2)⟩)]⟩))
 (by
  rintro⟨a,l⟩ t i ae h0 bR aY ⟨hm,ht⟩ hn ho
  try dsimp only at*
  rw[<-qbZ];have qhS:i.toNat<l.length:=by omega
  have htl:t.length<=i.toNat:=by have:=xF (a.take i.toNat) (l.take i.toNat);rw[zay] at this;rw[ht];omega
  have e1:D.nth (a.map bH) i.toNat=bH a[i.toNat]:=ay _ _ _ aY;have e2:D.nth (l.map bP) i.toNat=bP l[i.toNat]:=ay _ _ _ qhS;have jQ:=qaA aY qhS;rw[<-ht] at jQ;have ga:=λt' (h:t'=Wf t (a[i.toNat],l[i.toNat]))=>hn t' ⟨hm,by rw[jQ];exact h⟩;simp only[zaa];refine bz bR (bz (by omega) ⟨a,l,t,i,aY,rfl,⟨by omega,h0,bR⟩,λb hb=> ?_⟩);rw[e1,e2];generalize a[i.toNat]=x at*
  generalize l[i.toNat]=p at*
  refine az (λvp=>ao (by omega) (ga t ?_)) λuq=> ?_
  ·unfold Wf;rw[zao (by rw[<-hb];exact vp)]
  have TQ:Wf t (x,p)=cJ ltT t (x,p):=by unfold Wf;rw[zal (by rw[<-hb,uq];simp)]
  have t1:List.take t.length (t.map nQ)++[nQ (x,p)]=(t++[(x,p)]).map nQ:=cw nQ t (x,p);simp only[zap,zat,zaF];refine ao ⟨h0,bR⟩ (aq (l6 _) (ao ⟨h0,by omega⟩ (aq (ig _) (aq ?_ (ao (by omega) ⟨a,l,t,(x,p),t.length+1,i,((t.length+1:Nat):Int)-1,congrArg (λz=>(⟨93,[(0,cX a),(1,eM l),(5,.sl 0 0 (t.length+1)),(6,iD i),(9,iD (((t.length+1:Nat):Int)-1))],[(0,⟨0,none,.arr 155 false z⟩)]⟩:S)) t1,⟨by omega,rfl,by omega⟩,λt' ht'=>ao (by omega) (ga t' (by rw[TQ];exact ht'))⟩)))));rw[zab];exact⟨by simp,ct (by omega) (by omega)⟩)
 (by
  rintro⟨a,l⟩ t i ae hi ⟨hm,ht⟩ ho
  try dsimp only at*
  rw[<-qbZ];refine kA (by simp only[zaa];omega) (ho _ (λh=>by cases h) ?_);rw[ht,zaj,<-hm.2,zaj])
 (by rintro s ae ⟨a,l,rfl,hm,hp⟩;refine⟨(a,l),[],rfl,⟨hm,rfl⟩,?_⟩;rintro x rfl;exact hp _ rfl)
theorem qhT:FD X 85 qeS:=FD.mk (H:=[]) (hk:=[(3,ah (aL 85 3) qeR)]) (by kernel_rfl) .nil (.cons qaB .nil) (by
 intro ps R ae hh;obtain⟨a,l,rfl,rfl,hm,hp⟩:=hh
 (rw[<-qhP];delta EU Ws iq km qp Z7 Ed ZQ TJ iG lZ EV gD ma Eb Zat)
 exact⟨a,l,rfl,hm,λt ht=>hp t ht⟩)
theorem qaC:LD X 55 14 (ah (aL 55 14) qeU):=LD.ins (H:=[(88,jc)]) (hk:=[]) (by kernel_rfl) (by kernel_rfl) (.cons nz .nil) .nil
 (A:=List Td×Nat×Int) (α:=Pl) (λa o k=>rpB a.1 o a.2.1 a.2.2 k) ltN (λa=>a.2.1) (λ_=>True) (λa o=>(.exit 2,⟨96,[(5,.sl 0 0 a.1.length),(6,.sl 1 0 a.2.1),(7,iD a.2.2)],[(0,⟨0,none,rr false a.1⟩),(1,⟨0,none,qq false o⟩)]⟩)) (λ_ _ h=>by cases h)
 (by
  rintro⟨t,m,i⟩ o k ae _ h0 EO lX hk hz bX dz
  try dsimp only at*
  subst EO
  (rw[<-qhQ];delta iG Pp Hc EU Zt qU J6 Ke Zax Zg oY N9 Oa Ob YQ Zs Z8J Zc Mg Zav Wt Tk Zx ZE HQ Tm J4 s5 uJ Za Z9 Zb ri HV lY Zr)
  refine b7 (λhp=> ?_) λhp=>hz (by omega);have fh:k.toNat-1<o.length:=by omega
  have ek:(k-1).toNat=k.toNat-1:=by omega
  have e1:D.nth (o.map bP) k.toNat=bP o[k.toNat]:=ay _ _ _ hk;have e2:D.nth (o.map bP) (k.toNat-1)=bP o[k.toNat-1]:=ay _ _ _ fh;have bX:=bX hp;have dz:=dz hp;have vB:=jg bP o k.toNat o[k.toNat] o[k.toNat-1];have e3: ∀z,D.nth ((o.map bP).set k.toNat z) (k.toNat-1)=bP o[k.toNat-1]:=λz=>by unfold D.nth;rw[zac,zaR (by omega)];simp[fh]
  rw[ek,e1,e2];simp only[e3];generalize o[k.toNat]=x at*
  generalize o[k.toNat-1]=y at*
  simp only[zaa,zbb] at dz⊢;have vC:0<=k/\k<(o.length:Int):=⟨h0,by omega⟩
  have vE:0<=k-1/\k-1<(o.length:Int):=⟨by omega,by omega⟩
  have hf:(-9223372036854775808:Int)<=k-1/\k-1<=9223372036854775807:=by omega
  refine ao vC (ao hk (aq (ig _) (ao hf (ao vE (ao fh (aq (ig _) ⟨(x.1).1,(x.1).2.1,(x.1).2.2,(y.1).1,(y.1).2.1,(y.1).2.2,rfl,rfl,b7 (λh=> ?_) λh=>bX (by rw[<-zaX];exact λh2=>h ((ij (x.1) (y.1)).2 h2))⟩))))));have hy:=dz ((ij (x.1) (y.1)).1 h);simp only[rpB,qq,rr] at hy;rw[<-vB] at hy;refine ao hf (ao hf (ao vE (ao fh (aq (ig _) (ao vC (ao hk (aq (ig _) (ao vC (ao hk (aq (ig _) (ao vE (ao fh (aq (ig _) (ao hf ?_))))))))))))));exact hy)
 (by rintro s ae ⟨t,o,x,m,i,k,rfl,⟨hk,hn,ho⟩,hp⟩;refine⟨(t,m,i),o,x,k,rfl,hk,trivial,⟨hn.symm,ho⟩,?_⟩;have:=hp _ rfl;rw[rpA,jK,<-hn] at this;exact this)
theorem qaD{t:List Td}{i:Nat}(h:i<t.length):Og (t.take (i+1))=Ty (Og (t.take i)) t[i]:=by unfold Og;rw[zag h,za3];rfl
theorem qaE:LD X 55 4 (ah (aL 55 4) qeV):=LD.idx (H:=[(86,qeT),(87,Ha)]) (hk:=[(14,ah (aL 55 14) qeU)]) (by kernel_rfl) (by kernel_rfl) (.cons qhR (.cons Tp .nil)) (.cons qaC .nil)
 (A:=List Td) (B:=List Pl) (λt o i=>rpA t o i) (λt=>t.length) (λt i o=>t.length<=1000000/\o=Og (t.take i))
 (λt x=>x=(.exit 0,⟨96,[(6,.sl 0 0 (Og t).length)],[(0,⟨0,none,qq false (Og t)⟩)]⟩))
 (by
  rintro t o i ae h0 bR aY ⟨hm,ho⟩ hn bt
  (rw[<-qb0];delta iG Pp HX Zt J6 Zg sR Zao Zan Zam Zal Zak Zaj Zap qU Ke Za Z9 km ZaA s5 EM Z6W oK YR gU gT im gJ gK ve jf Zaz uj Hc EU Zn ZL Zay Zj Wr)
  have lX:o.length<=i.toNat:=by have:=Eg (t.take i.toNat);rw[zay] at this;rw[ho];omega
  have e1:D.nth (t.map nQ) i.toNat=nQ t[i.toNat]:=ay _ _ _ aY;have jQ:=qaD aY;rw[<-ho] at jQ;have ga:=λo' (h:o'=Ty o t[i.toNat])=>hn o' ⟨hm,by rw[jQ];exact h⟩;rw[e1];generalize t[i.toNat]=y at*
  have v:(D.aj (D.ar (nQ y) 3)==0&&(D.aj (D.ar (nQ y) 4)==0&&true)&&(D.aj (D.ar (nQ y) 5)==0&&true))=(y.2.1==aB):=EH y.2.1 aB;have qjO:i.toNat<(t.map nQ).length:=by rw[zaa];exact aY
  rw[v];simp only[zap,zat,zaF];refine bz bR (ao ⟨h0,bR⟩ (ao qjO (aq (Hq _) ?_)));refine az (λhr=>ao (by omega) (ga o ?_)) λhr=>⟨o,y.2.2.1,y.2.1,rfl,rfl,by omega,λb hb=>az (λvp=>ao (by omega) (ga o ?_)) λuq=>⟨o,y.2.1,rfl,rfl,by omega,b7 (λFh=> ?_) λFh=> ?_⟩⟩
  ·unfold Ty;rw[zao (.inl (by simpa using hr))]
  ·unfold Ty;rw[zao (.inr (by rw[<-hb];exact vp))]
  ·have bX: ¬(y.2.1=aB\/within o y.2.2.1 y.2.1=true):=λhh=>hh.elim (λe=>by rw[e] at hr;simp at hr) (λe=>by rw[<-hb,uq] at e;cases e);have Ce:(eQ o y.2.1).toNat<o.length:=by
    rcases sO (λp:Pl=>p.1==y.2.1) o with⟨k,p,h2,h3,h4⟩| ⟨h2,h3⟩
    ·have hk:k<o.length:=(zad.1 h2).1;have e:eQ o y.2.1=(k:Int):=h4;omega
    have e:eQ o y.2.1= -1:=h2;omega
   have KX:(eQ o y.2.1).toNat<(o.map bP).length:=by rw[zaa];exact Ce
   have hy:=ga (o.set (eQ o y.2.1).toNat (y.2.1,y.2.2.1,y.2.2.2.1,(o.getD (eQ o y.2.1).toNat tW).2.2.2)) (by unfold Ty;rw[zal bX,zao Fh]);rw[jd Ce];generalize o.getD (eQ o y.2.1).toNat tW=q at*
   simp only[rpA,qq,rr,zb1,zbb] at hy;refine ao ⟨Fh,by omega⟩ (ao KX (aq (ig _) (ao ⟨Fh,by omega⟩ (ao KX (aq (ig _) (ao (by omega) ?_))))));exact hy
  have bX: ¬(y.2.1=aB\/within o y.2.2.1 y.2.1=true):=λhh=>hh.elim (λe=>by rw[e] at hr;simp at hr) (λe=>by rw[<-hb,uq] at e;cases e);have t1:List.take o.length (o.map bP)++[bP y.2]=(o++[y.2]).map bP:=cw bP o y.2;refine aq ?_ (ao (by omega) ⟨t,o,y.2,o.length+1,i,((o.length+1:Nat):Int)-1,congrArg (λz=>(⟨96,[(5,.sl 0 0 t.length),(6,.sl 1 0 (o.length+1)),(7,iD i),(10,iD (((o.length+1:Nat):Int)-1))],[(0,⟨0,none,rr false t⟩),(1,⟨0,none,.arr 104 false z⟩)]⟩:S)) t1,⟨by omega,rfl,by omega⟩,λo' gg=>ao (by omega) (ga o' (by unfold Ty;rw[zal bX,zal Fh];exact gg))⟩);rw[zab];exact⟨by simp,ct (by omega) (by omega)⟩)
 (by
  rintro t o i ae hi ⟨hm,ho⟩ bt
  (rw[<-qb0];delta iG Pp HX Zt J6 Zg sR Zao Zan Zam Zal Zak Zaj Zap qU Ke Za Z9 km ZaA s5 EM Z6W oK YR gU gT im gJ gK ve jf Zaz uj Hc EU Zn ZL Zay Zj Wr)
  refine kA (by first |omega | (simp only[zaa];omega)) (bt _ (λh=>by cases h) ?_);rw[ho,zaj])
 (by rintro s ae ⟨t,rfl,hm,hp⟩;refine⟨t,[],rfl,⟨hm,rfl⟩,?_⟩;rintro x rfl;exact hp _ rfl)
theorem qhU:FD X 55 qeW:=FD.mk (H:=[(85,qeS)]) (hk:=[(4,ah (aL 55 4) qeV)]) (by kernel_rfl) (.cons qhT .nil) (.cons qaE .nil) (by
 intro ps R ae hh;obtain⟨a,l,rfl,rfl,hm,hp⟩:=hh
 (rw[<-qjN];delta iG Pp HX km uj An EU Z7 sw uI Z7V Ke ZaB iq qp Zx lZ gD ma)
 have:=xF a l;exact⟨a,l,rfl,rfl,hm,λt ht=>⟨t,rfl,by rw[ht];omega,λo ho=>hp o (by rw[ho,ht])⟩⟩)
end
abbrev md3(l:List ak)(p o:List Pl)(i:Int):S:=⟨78,[(0,bC l),(1,eM p),(5,.sl 0 0 o.length),(6,iD i)],[(0,⟨0,none,qq false o⟩)]⟩
abbrev md6(l:List ak)(p o:List Pl)(i j:Int):S:=⟨78,[(0,bC l),(1,eM p),(5,.sl 0 0 o.length),(6,iD i),(7,iD j)],[(0,⟨0,none,qq false o⟩)]⟩
abbrev md9(l:List ak)(p o:List Pl)(i j k:Int):S:=⟨78,[(0,bC l),(1,eM p),(5,.sl 0 0 o.length),(6,iD i),(7,iD j),(8,iD k)],[(0,⟨0,none,qq false o⟩)]⟩
def ZaI(k:Int)(ae:PX×S->Prop)(l:List ak)(p:List Pl)(o:List Pl)(i:Int)(j:Int):Prop:=bif Zj k then ae (PX.normal,S.mk 78 (fE l::EV p::(5,uj o)::ZK i::qU j::oL k) (HX o)) else False
def lS(l:List ak)(j:Int)(k:Int):D:=D.nth (D.dy (D.ar (fJ l j) 6)) (Zg k)
def ZaH(p:List Pl)(i:Int)(l:List ak)(j:Int)(k:Int):List D:=[D.agg [Ob p i,Oa p i,N9 p i,D.int .i64 (D.aj (D.ar (oY p i) 3)),D.int .i64 (D.aj (D.ar (oY p i) 4)),D.int .i64 (D.aj (D.ar (oY p i) 5)),D.str (D.eO (D.ar (oY p i) 6)),D.bool (D.ff (D.ar (lS l j k) 8))]]
def H5(l:List ak)(j:Int)(k:Int):Int:=D.aj (D.ar (lS l j k) 0)
noncomputable def H6(l:List ak)(j:Int)(k:Int):Bool:=cx PR (54:TypeId) (lS l j k)
def OB(l:List ak)(j:Int):Int:=(↑(List.length (D.dy (D.ar (fJ l j) 6))):Int)
def H7(k:Int)(l:List ak)(j:Int):Bool:=decide ((0:Int)<=k/\k<OB l j)
theorem qb1(l:List ak)(p o:List Pl)(i j k:Int)(ae:PX×S->Prop):(bif kL j l then bif cK l j then bif decide (k<OB l j) then bif kL j l then bif cK l j then bif H7 k l j then bif H6 l j k then bif H5 l j k==(0:Int) then bif kL j l then bif cK l j then bif H7 k l j then bif H6 l j k then bif G7 i p then bif ri p i then bif D.aj (D.ar (lS l j k) 1)==D.aj (D.ar (oY p i) 0)&&(D.aj (D.ar (lS l j k) 2)==D.aj (D.ar (oY p i) 1)&&true)&&(D.aj (D.ar (lS l j k) 3)==D.aj (D.ar (oY p i) 2)&&true) then bif G7 i p then bif ri p i then bif kL j l then bif cK l j then bif H7 k l j then bif H6 l j k then bif Nat.ble (km o) (s5 o)&&aO (km o+List.length (ZaH p i l j k)) 72 then bif Zj k then ae (PX.normal,S.mk 78 (fE l::EV p::(5,P.sl 0 0 (km o+List.length (ZaH p i l j k)))::ZK i::qU j::oL k) [(0,En.mk 0 none (Obj.arr (104:TypeId) false (List.take (km o) (iG o)++ZaH p i l j k)))]) else False else False else False else False else False else False else False else False else ZaI k ae l p o i j else False else False else False else False else False else False else ZaI k ae l p o i j else False else False else False else False else ae (PX.exit 4,S.mk 78 [fE l,EV p,(5,uj o),ZK i,qU j] (HX o)) else False else False)=(aD [] [] 54 9 (md9 l p o i j k)) ae:=by kernel_rfl
def qeX:S->K (PX×S):=λs ae=> ∃(l:List ak) (p o:List Pl) (i j:Int) (hi:i.toNat<p.length) (hj:j.toNat<l.length),s=md9 l p o i j 0/\((0<=i/\0<=j/\p.length<=1000)/\l.length<=1000000/\o.length<=1000/\l[j.toNat].ops.length<=200)/\ ∀o',o'=o++mdG p[i.toNat] l[j.toNat]->ae (.exit 4,md6 l p o' i j)
theorem qb2(l:List ak)(p o:List Pl)(i j:Int)(ae:PX×S->Prop):(bif decide (j<(↑(List.length (List.map aQ l)):Int)) then∃(au:List ak),∃(mB:List Pl),∃(aP:List Pl),∃(aI:Int),∃(j_1:Int),∃(hi:Int.toNat aI<List.length mB),∃(hj:Int.toNat j_1<List.length au),S.mk 78 [(0,P.d (D.sl 7 (List.map aQ l))),(1,P.d (D.sl 8 (List.map bP p))),(5,P.sl 0 0 (List.length o)),(6,P.d (D.int IntKind.i64 i)),(7,P.d (D.int IntKind.i64 j)),(8,P.d (D.int IntKind.i64 (0:Int)))] [(0,En.mk 0 none (Obj.arr 104 false (List.map bP o)))]=S.mk 78 [(0,P.d (D.sl 7 (List.map aQ au))),(1,P.d (D.sl 8 (List.map bP mB))),(5,P.sl 0 0 (List.length aP)),(6,P.d (D.int IntKind.i64 aI)),(7,P.d (D.int IntKind.i64 j_1)),(8,P.d (D.int IntKind.i64 (0:Int)))] [(0,En.mk 0 none (Obj.arr 104 false (List.map bP aP)))]/\(((0:Int)<=aI/\(0:Int)<=j_1/\List.length mB<=1000)/\List.length au<=1000000/\List.length aP<=1000/\List.length (ak.ops au[Int.toNat j_1])<=200)/\ ∀(o':List Pl),o'=aP++mdG mB[Int.toNat aI] au[Int.toNat j_1]->bif decide ((-9223372036854775808:Int)<=j_1+(1:Int)/\j_1+(1:Int)<=(9223372036854775807:Int)) then ae (PX.normal,S.mk 78 [(0,P.d (D.sl 7 (List.map aQ au))),(1,P.d (D.sl 8 (List.map bP mB))),(5,P.sl 0 0 (List.length o')),(6,P.d (D.int IntKind.i64 aI)),(7,P.d (D.int IntKind.i64 (j_1+(1:Int))))] [(0,En.mk 0 none (Obj.arr 104 false (List.map bP o')))]) else False else ae (PX.exit 2,S.mk 78 [(0,P.d (D.sl 7 (List.map aQ l))),(1,P.d (D.sl 8 (List.map bP p))),(5,P.sl 0 0 (List.length o)),(6,P.d (D.int IntKind.i64 i))] [(0,En.mk 0 none (Obj.arr 104 false (List.map bP o)))]))=(aD [] [(9,ah (aL 54 9) qeX)] 54 6 (md6 l p o i j)) ae:=by kernel_rfl
def qeY:S->K (PX×S):=λs ae=> ∃(l:List ak) (p o:List Pl) (i:Int) (hi:i.toNat<p.length),s=md6 l p o i 0/\((0<=i/\p.length<=1000)/\l.length<=1000000/\o.length<=999/\(∀g∈l,cE g=true)/\(l.map (·.s)).Nodup)/\ ∀o',o'=o++EN l p[i.toNat]->ae (.exit 2,md3 l p o' i)
theorem qb3(l:List ak)(p o:List Pl)(i:Int)(ae:PX×S->Prop):(bif decide (i<(↑(List.length (List.map bP p)):Int)) then∃(au:List ak),∃(mB:List Pl),∃(aP:List Pl),∃(aI:Int),∃(hi:Int.toNat aI<List.length mB),S.mk 78 [(0,P.d (D.sl 7 (List.map aQ l))),(1,P.d (D.sl 8 (List.map bP p))),(5,P.sl 0 0 (List.length o)),(6,P.d (D.int IntKind.i64 i)),(7,P.d (D.int IntKind.i64 (0:Int)))] [(0,En.mk 0 none (Obj.arr 104 false (List.map bP o)))]=S.mk 78 [(0,P.d (D.sl 7 (List.map aQ au))),(1,P.d (D.sl 8 (List.map bP mB))),(5,P.sl 0 0 (List.length aP)),(6,P.d (D.int IntKind.i64 aI)),(7,P.d (D.int IntKind.i64 (0:Int)))] [(0,En.mk 0 none (Obj.arr 104 false (List.map bP aP)))]/\(((0:Int)<=aI/\List.length mB<=1000)/\List.length au<=1000000/\List.length aP<=999/\(∀(g:ak),g∈au->cE g=true)/\List.Nodup (List.map (λ(x:ak)=>ak.s x) au))/\ ∀(o':List Pl),o'=aP++EN au mB[Int.toNat aI]->bif decide ((-9223372036854775808:Int)<=aI+(1:Int)/\aI+(1:Int)<=(9223372036854775807:Int)) then ae (PX.normal,S.mk 78 [(0,P.d (D.sl 7 (List.map aQ au))),(1,P.d (D.sl 8 (List.map bP mB))),(5,P.sl 0 0 (List.length o')),(6,P.d (D.int IntKind.i64 (aI+(1:Int))))] [(0,En.mk 0 none (Obj.arr 104 false (List.map bP o')))]) else False else ae (PX.exit 0,S.mk 78 [(5,P.sl 0 0 (List.length o))] [(0,En.mk 0 none (Obj.arr 104 false (List.map bP o)))]))=(aD [] [(6,ah (aL 54 6) qeY)] 54 3 (md3 l p o i)) ae:=by kernel_rfl
def qeZ:S->K (PX×S):=λs ae=> ∃(l:List ak) (p:List Pl),s=md3 l p [] 0/\(p.length<=1000/\l.length<=1000000/\(∀g∈l,cE g=true)/\(l.map (·.s)).Nodup)/\ ∀o,o=H3 l p->ae (.exit 0,⟨78,[(5,.sl 0 0 o.length)],[(0,⟨0,none,qq false o⟩)]⟩)
def ZaK(au:List ak):Prop:= ∀(g:ak),g∈au->cE g=true
def ZaL(mB:List Pl)(au:List ak):Prop:=km mB<=1000/\iR au/\ZaK au/\List.Nodup (List.map (λ(x:ak)=>ak.s x) au)
def ZaJ(l:List ak)(p:List Pl):S:=S.mk 78 (fE l::EV p::TJ) [(0,An)]
theorem qjP(l:List ak)(p:List Pl)(ae:P×List (Nat×En)->Prop):(∃(au:List ak) (mB:List Pl),ZaJ l p=ZaJ au mB/\ZaL mB au/\ ∀(o:List Pl),o=H3 au mB->ae (uj o,HX o))=(aJ [] [(3,ah (aL 54 3) qeZ)] 54 [bC l,eM p] []) ae:=by kernel_rfl
def Uw:bm:=λps R ae=> ∃l p,ps=[bC l,eM p]/\R=[]/\(p.length<=1000/\l.length<=1000000/\(∀g∈l,cE g=true)/\(l.map (·.s)).Nodup)/\ ∀o,o=H3 l p->ae (.sl 0 0 o.length,[(0,⟨0,none,qq false o⟩)])
abbrev ofR(m:List ak)(o:List aw)(nh nl:Nat)(A P H L:List D):List (Nat×En):=[(0,⟨0,none,kV true m⟩),(1,⟨0,none,.box 69 [.sl 2 0 0,.sl 3 0 0,.sl 4 0 0,.sl 5 0 0,.sl 6 0 0]⟩),(2,⟨0,none,mA false []⟩),(3,⟨0,none,qq false []⟩),(4,⟨0,none,qhj false []⟩),(5,⟨0,none,qhj false []⟩),(6,⟨0,none,.arr 72 false []⟩),(7,⟨0,none,.box 69 [.sl 8 0 o.length,.sl 9 0 0,.sl 10 0 nh,.sl 11 0 nl,.sl 12 0 0]⟩),(8,⟨0,none,mA false o⟩),(9,⟨0,none,qq false []⟩),(10,⟨0,none,.arr 106 false H⟩),(11,⟨0,none,.arr 106 false L⟩),(12,⟨0,none,.arr 72 false []⟩),(13,⟨0,none,.arr 50 false A⟩),(14,⟨0,none,.arr 104 false P⟩)]
abbrev of7(m:List ak)(o:List aw)(na np nh nl:Nat)(A P H L:List D)(i:Int):S:=⟨140,[(0,.sl 0 0 m.length),(2,.ref 1 0 0),(3,.ref 7 0 0),(4,.sl 13 0 na),(5,.sl 14 0 np),(6,iD i)],ofR m o nh nl A P H L⟩
abbrev Ux(m:List ak)(o:List aw)(na np nh nl:Nat)(A P H L:List D)(i:Int)(on:Bool)(k:Int):S:=⟨140,[(0,.sl 0 0 m.length),(2,.ref 1 0 0),(3,.ref 7 0 0),(4,.sl 13 0 na),(5,.sl 14 0 np),(6,iD i),(7,.d (.bool on)),(8,iD k)],ofR m o nh nl A P H L⟩
abbrev qe0(m:List ak)(o:List aw)(y:aX)(na np nh nl:Nat)(A P H L:List D)(i:Int)(on:Bool)(k j:Int):S:=⟨140,[(0,.sl 0 0 m.length),(2,.ref 1 0 0),(3,.ref 7 0 0),(4,.sl 13 0 na),(5,.sl 14 0 np),(6,iD i),(7,.d (.bool on)),(8,iD k),(9,.ref 15 0 0),(10,iD j)],ofR m o nh nl A P H L++[(15,⟨0,none,qhL y⟩)]⟩
def Uy:Nat×En:=(12,Wd)
def Zb2(H:List D):Nat×En:=(10,bU H)
def OC:Nat×En:=(9,An)
def OD(o:List aw):Nat×En:=(8,pd o)
def ZaZ:List P:=[P.sl 12 0 0]
def ZaY:P:=P.sl 9 0 0
def Zb5(o:List aw)(nh:Nat)(nl:Nat):Nat×En:=(7,En.mk 0 none (Obj.box (69:TypeId) (P.sl 8 0 (dR o)::ZaY::P.sl 10 0 nh::P.sl 11 0 nl::ZaZ)))
def OE:Nat×En:=(6,Wd)
def H8:En:=En.mk 0 none (Obj.arr (106:TypeId) false [])
def OG:Nat×En:=(5,H8)
def OH:Nat×En:=(4,H8)
def OI:Nat×En:=(3,An)
def Bc:Nat×En:=(2,w8)
def OJ:Nat×En:=(1,En.mk 0 none (Obj.box (69:TypeId) [P.sl 2 0 0,P.sl 3 0 0,P.sl 4 0 0,P.sl 5 0 0,P.sl 6 0 0]))
def OL(m:List ak):Nat×En:=(0,En.mk 0 none (Obj.arr (34:TypeId) true (cr m)))
def Uz(m:List ak)(o:List aw)(nh:Nat)(nl:Nat)(H:List D)(L:List D)(A:List D)(P:List D):List (Nat×En):=[OL m,OJ,Bc,OI,OH,OG,OE,Zb5 o nh nl,OD o,OC,Zb2 H,(11,bU L),Uy,(13,ET A),(14,ES P)]
def Zb4(A:List D)(P:List D)(y:aX):List (Nat×En):=[Uy,(13,ET A),(14,ES P),(15,Wl y)]
def OM(np:Nat):Nat×P:=(5,P.sl 14 0 np)
def ON(na:Nat):Nat×P:=(4,P.sl 13 0 na)
def H9:Nat×P:=(3,P.ref 7 0 0)
def Ia:Nat×P:=(2,iQ)
theorem UA(m:List ak)(o:List aw)(y:aX)(na np nh nl:Nat)(A P H L:List D)(i:Int)(on:Bool)(k j:Int)(ae:PX×S->Prop):(bif decide (j<nM y) then bif on then bif decide ((0:Int)<=j/\j<nM y) then bif cx PR (30:TypeId) (Z9v y j) then bif zL nl L&&aO (nl+List.length (Wm y j)) 40 then bif Zj j then ae (PX.normal,S.mk 140 [lW m,Ia,H9,ON na,OM np,ZK i,qT on,qt k,(9,Pi.P.ref 15 0 0),(10,Pi.P.d (Zn j))] (OL m::OJ::Bc::OI::OH::OG::OE::(7,En.mk 0 none (Obj.box (69:TypeId) (Pi.P.sl 8 0 (dR o)::ZaY::Pi.P.sl 10 0 nh::Pi.P.sl 11 0 (nl+List.length (Wm y j))::ZaZ)))::OD o::OC::Zb2 H::(11,En.mk 0 none (Obj.arr (106:TypeId) false (List.take nl L++Wm y j)))::Zb4 A P y)) else False else False else False else False else ae (PX.exit 4,S.mk 140 (lW m::Ia::H9::ON na::OM np::ZK i::qT on::Ka k) (Uz m o nh nl H L A P)) else ae (PX.exit 4,S.mk 140 (lW m::Ia::H9::ON na::OM np::ZK i::qT on::Ka k) (Uz m o nh nl H L A P)))=(aD [] [] 32 20 (qe0 m o y na np nh nl A P H L i on k j)) ae:=by kernel_rfl
def UB:S->K (PX×S):=λs ae=> ∃m o y na np nh nl A P H L i on k,s=qe0 m o y na np nh nl A P H L i on k 0/\(y.cg.length<=200/\nl=L.length/\nl<=100000000000)/\ ∀bw L',cZ on y nl L bw L'->ae (.exit 4,Ux m o na np nh bw A P H L' i on k)
def Zbc(i:Int)(on:Bool)(k:Int):List (Nat×P):=[ZK i,qT on,qt k,(9,P.ref 15 0 0),(10,P.d Z7)]
def Zbi(bO:List ak)(bn:Nat)(bp:Nat)(aI:Int)(aN:Bool)(bW:Int):List (Nat×P):=lW bO::Ia::H9::ON bn::OM bp::Zbc aI aN bW
def Zbj(bO:List ak)(bn:Nat)(bp:Nat)(aI:Int)(aN:Bool)(bW:Int)(aP:List aw)(bq:Nat)(aW:Nat)(dx:List D)(cu:List D)(dv:List D)(dw:List D)(y:aX):S:=S.mk 140 (Zbi bO bn bp aI aN bW) (OL bO::OJ::Bc::OI::OH::OG::OE::Zb5 aP bq aW::OD aP::OC::Zb2 dx::(11,bU cu)::Zb4 dv dw y)
def Zb9(m:List ak)(i:Int)(k:Int):D:=D.int .i64 (D.aj (D.ar (lS m i k) 3))
def Zb8(m:List ak)(i:Int)(k:Int):D:=D.int .i64 (D.aj (D.ar (lS m i k) 2))
def Zb7(m:List ak)(i:Int)(k:Int):D:=D.int .i64 (D.aj (D.ar (lS m i k) 1))
def Zbg(m:List ak)(i:Int)(k:Int):List (Nat×En):=[(15,En.mk 0 none (Obj.box (54:TypeId) [P.d (D.int .i64 (H5 m i k)),P.d (Zb7 m i k),P.d (Zb8 m i k),P.d (Zb9 m i k),P.d (D.int .i64 (D.aj (D.ar (lS m i k) 4))),P.d (D.int .i64 (D.aj (D.ar (lS m i k) 5))),P.d (D.int .i64 (D.aj (D.ar (lS m i k) 6))),P.d (D.str (D.eO (D.ar (lS m i k) 7))),P.d (D.bool (D.ff (D.ar (lS m i k) 8))),P.d (D.sl 2 (D.dy (D.ar (lS m i k) 9))),P.d (D.int .i64 (D.aj (D.ar (lS m i k) 10))),P.d (D.int .i64 (D.aj (D.ar (lS m i k) 11))),P.d (D.int .i64 (D.aj (D.ar (lS m i k) 12))),P.d (D.int .i64 (D.aj (D.ar (lS m i k) 13))),P.d (D.int .i64 (D.aj (D.ar (lS m i k) 14))),P.d (D.int .i64 (D.aj (D.ar (lS m i k) 15))),P.d (D.str (D.eO (D.ar (lS m i k) 16))),P.d (D.sl 3 (D.dy (D.ar (lS m i k) 17)))]))]
def Zbm(m:List ak)(na:Nat)(np:Nat)(i:Int)(on:Bool)(k:Int)(o:List aw)(nh:Nat)(nl:Nat)(H:List D)(L:List D)(A:List D)(P:List D)(ae:PX×S->Prop):Prop:= ∃(bO:List ak) (aP:List aw) (y:aX) (bn:Nat) (bp:Nat) (bq:Nat) (aW:Nat) (dv:List D) (dw:List D) (dx:List D) (cu:List D) (aI:Int) (aN:Bool) (bW:Int),S.mk 140 (Zbi m na np i on k) (OL m::OJ::Bc::OI::OH::OG::OE::Zb5 o nh nl::OD o::OC::Zb2 H::(11,bU L)::Uy::(13,ET A)::(14,ES P)::Zbg m i k)=Zbj bO bn bp aI aN bW aP bq aW dx cu dv dw y/\rW y aW cu/\ ∀(bw:Nat) (L':List D),cZ aN y aW cu bw L'->bif Zj bW then ae (PX.normal,S.mk 140 (lW bO::Ia::H9::ON bn::OM bp::ZK aI::qT aN::oL bW) (Uz bO aP bq bw dx L' dv dw)) else False
def Zbb(m:List ak)(i:Int)(k:Int):List D:=[D.agg [Zb7 m i k,Zb8 m i k,Zb9 m i k,nO m i,my m i]]
def Zbf(nh:Nat)(H:List D)(m:List ak)(i:Int)(k:Int):Nat×En:=(10,En.mk 0 none (Obj.arr (106:TypeId) false (List.take nh H++Zbb m i k)))
def Zbe(o:List aw)(nh:Nat)(m:List ak)(i:Int)(k:Int)(nl:Nat):Nat×En:=(7,En.mk 0 none (Obj.box (69:TypeId) (P.sl 8 0 (dR o)::ZaY::P.sl 10 0 (nh+List.length (Zbb m i k))::P.sl 11 0 nl::ZaZ)))
noncomputable def Zbn(on:Bool)(m:List ak)(i:Int)(k:Int)(nh:Nat)(H:List D)(na:Nat)(np:Nat)(o:List aw)(nl:Nat)(L:List D)(A:List D)(P:List D)(ae:PX×S->Prop):Prop:=bif on then bif H5 m i k !=(2:Int) then bif ki i m then bif iA i m then bif cK m i then bif zL nh H&&aO (nh+List.length (Zbb m i k)) 40 then∃(bO:List ak) (aP:List aw) (y:aX) (bn:Nat) (bp:Nat) (bq:Nat) (aW:Nat) (dv:List D) (dw:List D) (dx:List D) (cu:List D) (aI:Int) (aN:Bool) (bW:Int),S.mk 140 (Zbi m na np i on k) (OL m::OJ::Bc::OI::OH::OG::OE::Zbe o nh m i k nl::OD o::OC::Zbf nh H m i k::(11,bU L)::Uy::(13,ET A)::(14,ES P)::Zbg m i k)=Zbj bO bn bp aI aN bW aP bq aW dx cu dv dw y/\rW y aW cu/\ ∀(bw:Nat) (L':List D),cZ aN y aW cu bw L'->bif Zj bW then ae (PX.normal,S.mk 140 (lW bO::Ia::H9::ON bn::OM bp::ZK aI::qT aN::oL bW) (Uz bO aP bq bw dx L' dv dw)) else False else False else False else False else False else Zbm m na np i on k o nh nl H L A P ae else Zbm m na np i on k o nh nl H L A P ae
def Zba(m:List ak)(i:Int)(k:Int):List D:=[D.agg [Zb7 m i k,Zb8 m i k,Zb9 m i k,D.int .i64 (D.aj (D.ar (lS m i k) 4)),D.int .i64 (D.aj (D.ar (lS m i k) 5)),D.int .i64 (D.aj (D.ar (lS m i k) 6)),D.str (D.eO (D.ar (lS m i k) 7)),D.bool (D.ff (D.ar (lS m i k) 8))]]
def Zbh(L:List D)(na:Nat)(A:List D)(m:List ak)(i:Int)(k:Int)(np:Nat)(P:List D):List (Nat×En):=(11,bU L)::Uy::(13,En.mk 0 none (Obj.arr (50:TypeId) false (List.take na A++[D.agg (nO m i::my m i::ZE k)])))::(14,En.mk 0 none (Obj.arr (104:TypeId) false (List.take np P++Zba m i k)))::Zbg m i k
def Zbd(m:List ak)(na:Nat)(i:Int)(k:Int)(np:Nat)(on:Bool):List (Nat×P):=lW m::Ia::H9::(4,P.sl 13 0 (na+List.length [D.agg (nO m i::my m i::ZE k)]))::(5,P.sl 14 0 (np+List.length (Zba m i k)))::Zbc i on k
def Zbk(m:List ak)(na:Nat)(i:Int)(k:Int)(np:Nat)(on:Bool)(o:List aw)(nh:Nat)(nl:Nat)(H:List D)(L:List D)(A:List D)(P:List D)(ae:PX×S->Prop):Prop:= ∃(bO:List ak) (aP:List aw) (y:aX) (bn:Nat) (bp:Nat) (bq:Nat) (aW:Nat) (dv:List D) (dw:List D) (dx:List D) (cu:List D) (aI:Int) (aN:Bool) (bW:Int),S.mk 140 (Zbd m na i k np on) (OL m::OJ::Bc::OI::OH::OG::OE::Zb5 o nh nl::OD o::OC::Zb2 H::Zbh L na A m i k np P)=Zbj bO bn bp aI aN bW aP bq aW dx cu dv dw y/\rW y aW cu/\ ∀(bw:Nat) (L':List D),cZ aN y aW cu bw L'->bif Zj bW then ae (PX.normal,S.mk 140 (lW bO::Ia::H9::ON bn::OM bp::ZK aI::qT aN::oL bW) (Uz bO aP bq bw dx L' dv dw)) else False
noncomputable def Zbl(i:Int)(m:List ak)(na:Nat)(A:List D)(k:Int)(np:Nat)(P:List D)(on:Bool)(nh:Nat)(H:List D)(o:List aw)(nl:Nat)(L:List D)(ae:PX×S->Prop):Prop:=bif ki i m then bif iA i m then bif cK m i then bif zL na A&&aO (na+List.length [D.agg (nO m i::my m i::ZE k)]) 24 then bif zL np P&&aO (np+List.length (Zba m i k)) 72 then bif on then bif H5 m i k !=(2:Int) then bif ki i m then bif iA i m then bif cK m i then bif zL nh H&&aO (nh+List.length (Zbb m i k)) 40 then∃(bO:List ak) (aP:List aw) (y:aX) (bn:Nat) (bp:Nat) (bq:Nat) (aW:Nat) (dv:List D) (dw:List D) (dx:List D) (cu:List D) (aI:Int) (aN:Bool) (bW:Int),S.mk 140 (Zbd m na i k np on) (OL m::OJ::Bc::OI::OH::OG::OE::Zbe o nh m i k nl::OD o::OC::Zbf nh H m i k::Zbh L na A m i k np P)=Zbj bO bn bp aI aN bW aP bq aW dx cu dv dw y/\rW y aW cu/\ ∀(bw:Nat) (L':List D),cZ aN y aW cu bw L'->bif Zj bW then ae (PX.normal,S.mk 140 (lW bO::Ia::H9::ON bn::OM bp::ZK aI::qT aN::oL bW) (Uz bO aP bq bw dx L' dv dw)) else False else False else False else False else False else Zbk m na i k np on o nh nl H L A P ae else Zbk m na i k np on o nh nl H L A P ae else False else False else False else False else False
theorem UC(m:List ak)(o:List aw)(na np nh nl:Nat)(A P H L:List D)(i:Int)(on:Bool)(k:Int)(ae:PX×S->Prop):(bif ki i m then bif iA i m then bif cK m i then bif decide (k<OB m i) then bif ki i m then bif iA i m then bif cK m i then bif H7 k m i then bif H6 m i k then bif H5 m i k==(0:Int) then Zbl i m na A k np P on nh H o nl L ae else bif H5 m i k==(1:Int) then bif on then Zbl i m na A k np P on nh H o nl L ae else Zbn on m i k nh H na np o nl L A P ae else Zbn on m i k nh H na np o nl L A P ae else False else False else False else False else False else ae (PX.exit 2,S.mk 140 (lW m::Ia::H9::ON na::OM np::Cj i) (Uz m o nh nl H L A P)) else False else False else False)=(aD [] [(20,ah (aL 32 20) UB)] 32 11 (Ux m o na np nh nl A P H L i on k)) ae:=by kernel_rfl
def UD:S->K (PX×S):=λs ae=> ∃(m:List ak) (o:List aw) (na np nh nl:Nat) (A P H L:List D) (i:Int) (on:Bool) (t:Tl) (N:Nat) (hi:i.toNat<m.length),s=Ux m o na np nh nl A P H L i on 0/\(rX t na np nh nl A P H L/\vw N t/\N<=300000000/\(0<=i/\m[i.toNat].ops.length<=200/\ ∀y∈m[i.toNat].ops,y.cg.length<=200))/\
 ∀pe pg ph bw A' P' H' L',rX (GY on m[i.toNat].s m[i.toNat].ops t) pe pg ph bw A' P' H' L'->ae (.exit 2,of7 m o pe pg ph bw A' P' H' L' i)
theorem qb4(m:List ak)(o:List aw)(na np nh nl:Nat)(A P H L:List D)(i:Int)(ae:PX×S->Prop):(bif decide (i<(↑(List.length m):Int)) then bif decide ((0:Int)<=i/\i<(↑(List.length m):Int)) then bif decide (Int.toNat i<List.length (List.map aQ m)) then bif cx PR (34:TypeId) (D.nth (List.map aQ m) (Int.toNat i)) then∃(l:List aw),∃(x:aw),[Pi.P.sl 0 0 (List.length o),Pi.P.d (D.agg [D.int IntKind.i64 (D.aj (D.ar (D.nth (List.map aQ m) (Int.toNat i)) 0)),D.int IntKind.i64 (D.aj (D.ar (D.nth (List.map aQ m) (Int.toNat i)) 1))])]=[Pi.P.sl 0 0 (List.length l),Pi.P.d (D.agg [D.int IntKind.i64 (Prod.fst x),D.int IntKind.i64 (Prod.snd x)])]/\[(0,En.mk 0 (some 0) (Obj.arr 30 false (List.map bh o)))]=[(0,En.mk 0 (some 0) (Obj.arr 30 false (List.map bh l)))]/\List.length l<=1000000/\ ∀(b:Bool),b=decide (x∈l)-> ∃(bO:List ak),∃(aP:List aw),∃(bn:Nat),∃(bp:Nat),∃(bq:Nat),∃(aW:Nat),∃(dv:List D),∃(dw:List D),∃(dx:List D),∃(cu:List D),∃(aI:Int),∃(on:Bool),∃(t:Tl),∃(N:Nat),∃(hi:Int.toNat aI<List.length bO),S.mk 140 [(0,Pi.P.sl 0 0 (List.length m)),(2,Pi.P.ref 1 0 0),(3,Pi.P.ref 7 0 0),(4,Pi.P.sl 13 0 na),(5,Pi.P.sl 14 0 np),(6,Pi.P.d (D.int IntKind.i64 i)),(7,Pi.P.d (D.bool b)),(8,Pi.P.d (D.int IntKind.i64 (0:Int)))] [(0,En.mk 0 none (Obj.arr 34 true (List.map aQ m))),(1,En.mk 0 none (Obj.box 69 [Pi.P.sl 2 0 0,Pi.P.sl 3 0 0,Pi.P.sl 4 0 0,Pi.P.sl 5 0 0,Pi.P.sl 6 0 0])),(2,En.mk 0 none (Obj.arr 30 false [])),(3,En.mk 0 none (Obj.arr 104 false [])),(4,En.mk 0 none (Obj.arr 106 false [])),(5,En.mk 0 none (Obj.arr 106 false [])),(6,En.mk 0 none (Obj.arr 72 false [])),(7,En.mk 0 none (Obj.box 69 [Pi.P.sl 8 0 (List.length o),Pi.P.sl 9 0 0,Pi.P.sl 10 0 nh,Pi.P.sl 11 0 nl,Pi.P.sl 12 0 0])),(8,En.mk 0 none (Obj.arr 30 false (List.map bh l))),(9,En.mk 0 none (Obj.arr 104 false [])),(10,En.mk 0 none (Obj.arr 106 false H)),(11,En.mk 0 none (Obj.arr 106 false L)),(12,En.mk 0 none (Obj.arr 72 false [])),(13,En.mk 0 none (Obj.arr 50 false A)),(14,En.mk 0 none (Obj.arr 104 false P))]=S.mk 140 [(0,Pi.P.sl 0 0 (List.length bO)),(2,Pi.P.ref 1 0 0),(3,Pi.P.ref 7 0 0),(4,Pi.P.sl 13 0 bn),(5,Pi.P.sl 14 0 bp),(6,Pi.P.d (D.int IntKind.i64 aI)),(7,Pi.P.d (D.bool on)),(8,Pi.P.d (D.int IntKind.i64 (0:Int)))] [(0,En.mk 0 none (Obj.arr 34 true (List.map aQ bO))),(1,En.mk 0 none (Obj.box 69 [Pi.P.sl 2 0 0,Pi.P.sl 3 0 0,Pi.P.sl 4 0 0,Pi.P.sl 5 0 0,Pi.P.sl 6 0 0])),(2,En.mk 0 none (Obj.arr 30 false [])),(3,En.mk 0 none (Obj.arr 104 false [])),(4,En.mk 0 none (Obj.arr 106 false [])),(5,En.mk 0 none (Obj.arr 106 false [])),(6,En.mk 0 none (Obj.arr 72 false [])),(7,En.mk 0 none (Obj.box 69 [Pi.P.sl 8 0 (List.length aP),Pi.P.sl 9 0 0,Pi.P.sl 10 0 bq,Pi.P.sl 11 0 aW,Pi.P.sl 12 0 0])),(8,En.mk 0 none (Obj.arr 30 false (List.map bh aP))),(9,En.mk 0 none (Obj.arr 104 false [])),(10,En.mk 0 none (Obj.arr 106 false dx)),(11,En.mk 0 none (Obj.arr 106 false cu)),(12,En.mk 0 none (Obj.arr 72 false [])),(13,En.mk 0 none (Obj.arr 50 false dv)),(14,En.mk 0 none (Obj.arr 104 false dw))]/\(rX t bn bp bq aW dv dw dx cu/\vw N t/\N<=300000000/\(0:Int)<=aI/\List.length (ak.ops bO[Int.toNat aI])<=200/\ ∀(y:aX),y∈ak.ops bO[Int.toNat aI]->List.length (aX.cg y)<=200)/\ ∀(pe pg ph bw:Nat) (A' P' H' L':List D),rX (GY on (ak.s bO[Int.toNat aI]) (ak.ops bO[Int.toNat aI]) t) pe pg ph bw A' P' H' L'->bif decide ((-9223372036854775808:Int)<=aI+(1:Int)/\aI+(1:Int)<=(9223372036854775807:Int)) then ae (PX.normal,S.mk 140 [(0,Pi.P.sl 0 0 (List.length bO)),(2,Pi.P.ref 1 0 0),(3,Pi.P.ref 7 0 0),(4,Pi.P.sl 13 0 pe),(5,Pi.P.sl 14 0 pg),(6,Pi.P.d (D.int IntKind.i64 (aI+(1:Int))))] [(0,En.mk 0 none (Obj.arr 34 true (List.map aQ bO))),(1,En.mk 0 none (Obj.box 69 [Pi.P.sl 2 0 0,Pi.P.sl 3 0 0,Pi.P.sl 4 0 0,Pi.P.sl 5 0 0,Pi.P.sl 6 0 0])),(2,En.mk 0 none (Obj.arr 30 false [])),(3,En.mk 0 none (Obj.arr 104 false [])),(4,En.mk 0 none (Obj.arr 106 false [])),(5,En.mk 0 none (Obj.arr 106 false [])),(6,En.mk 0 none (Obj.arr 72 false [])),(7,En.mk 0 none (Obj.box 69 [Pi.P.sl 8 0 (List.length aP),Pi.P.sl 9 0 0,Pi.P.sl 10 0 ph,Pi.P.sl 11 0 bw,Pi.P.sl 12 0 0])),(8,En.mk 0 none (Obj.arr 30 false (List.map bh aP))),(9,En.mk 0 none (Obj.arr 104 false [])),(10,En.mk 0 none (Obj.arr 106 false H')),(11,En.mk 0 none (Obj.arr 106 false L')),(12,En.mk 0 none (Obj.arr 72 false [])),(13,En.mk 0 none (Obj.arr 50 false A')),(14,En.mk 0 none (Obj.arr 104 false P'))]) else False else False else False else False else ae (PX.exit 0,S.mk 140 [(0,Pi.P.sl 0 0 (List.length m)),(2,Pi.P.ref 1 0 0),(3,Pi.P.ref 7 0 0),(4,Pi.P.sl 13 0 na),(5,Pi.P.sl 14 0 np)] [(0,En.mk 0 none (Obj.arr 34 true (List.map aQ m))),(1,En.mk 0 none (Obj.box 69 [Pi.P.sl 2 0 0,Pi.P.sl 3 0 0,Pi.P.sl 4 0 0,Pi.P.sl 5 0 0,Pi.P.sl 6 0 0])),(2,En.mk 0 none (Obj.arr 30 false [])),(3,En.mk 0 none (Obj.arr 104 false [])),(4,En.mk 0 none (Obj.arr 106 false [])),(5,En.mk 0 none (Obj.arr 106 false [])),(6,En.mk 0 none (Obj.arr 72 false [])),(7,En.mk 0 none (Obj.box 69 [Pi.P.sl 8 0 (List.length o),Pi.P.sl 9 0 0,Pi.P.sl 10 0 nh,Pi.P.sl 11 0 nl,Pi.P.sl 12 0 0])),(8,En.mk 0 none (Obj.arr 30 false (List.map bh o))),(9,En.mk 0 none (Obj.arr 104 false [])),(10,En.mk 0 none (Obj.arr 106 false H)),(11,En.mk 0 none (Obj.arr 106 false L)),(12,En.mk 0 none (Obj.arr 72 false [])),(13,En.mk 0 none (Obj.arr 50 false A)),(14,En.mk 0 none (Obj.arr 104 false P))]))=(aD [(42,Hh)] [(11,ah (aL 32 11) UD)] 32 7 (of7 m o na np nh nl A P H L i)) ae:=by kernel_rfl
abbrev OfB:=Nat×Nat×Nat×Nat×List D×List D×List D×List D
structure OfP where
 m:List ak
 o:List aw
 y:aX
 na:Nat
 np:Nat
 nh:Nat
 A:List D
 P:List D
 H:List D
 i:Int
 on:Bool
 k:Int
 L:List D
structure OfQ where
 m:List ak
 o:List aw
 g:ak
 i:Int
 on:Bool
 t:Tl
 N:Nat
theorem UE{x:Pl}{g:ak}{k:Nat}(h:k<g.ops.length):(g.ops.take (k+1)).flatMap (Ba x)=(g.ops.take k).flatMap (Ba x)++Ba x g.ops[k]:=by rw[zag h,zbG];simp
theorem UF{x:Pl}{l:List ak}{j:Nat}(h:j<l.length):EN (l.take (j+1)) x=EN (l.take j) x++mdG x l[j]:=by unfold EN;rw[zag h,zbG];simp
theorem UG{l:List ak}{p:List Pl}{i:Nat}(h:i<p.length):H3 l (p.take (i+1))=H3 l (p.take i)++EN l p[i]:=by unfold H3;rw[zag h,zbG];simp
theorem Mh(x:Pl): ∀l:List aX,(l.flatMap (Ba x)).length<=l.length
 | []=>by simp
 |a::r=>by have h1:=Mh x r;have h2:=L7 x a;rw[zct,zan,zap];omega
section
variable{X:XF}
theorem qaF:LD X 54 9 (ah (aL 54 9) qeX):=LD.idx (H:=[]) (hk:=[]) (by kernel_rfl) (by kernel_rfl) .nil .nil
 (A:=List ak×List Pl×List Pl×Int×Int×Pl×ak) (B:=List Pl) (λa o k=>md9 a.1 a.2.1 o a.2.2.2.1 a.2.2.2.2.1 k) (λa=>a.2.2.2.2.2.2.ops.length)
 (λa k o=>((0<=a.2.2.2.1/\a.2.2.2.1<a.2.1.length/\0<=a.2.2.2.2.1/\a.2.2.2.2.1<a.1.length)/\D.nth (a.2.1.map bP) a.2.2.2.1.toNat=bP a.2.2.2.2.2.1/\D.nth (a.1.map aQ) a.2.2.2.2.1.toNat=aQ a.2.2.2.2.2.2/\a.2.2.1.length<=1000/\a.2.2.2.2.2.2.ops.length<=200)/\o=a.2.2.1++(a.2.2.2.2.2.2.ops.take k).flatMap (Ba a.2.2.2.2.2.1))
 (λa z=>z=(.exit 4,md6 a.1 a.2.1 (a.2.2.1++mdG a.2.2.2.2.2.1 a.2.2.2.2.2.2) a.2.2.2.1 a.2.2.2.2.1))
 (by
  rintro⟨l,p,o0,i,j,x,g⟩ o k ae h0 uB dO ⟨⟨hb,hx,hg,lX,Bd⟩,ho⟩ hn bt;dsimp only at*
  (rw[<-qb1];delta iG Pp HX km uj Zn oL Zt qU ZK lZ EV cr cS fE Za Z9 Zj ZaI Zg fJ lS oY N9 Oa Ob ZaH s5 ri G7 H5 H6 OB H7 cK eD kL)
  rw[hx,hg];have u6:D.dy (D.ar (aQ g) 6)=g.ops.map eN:=rfl;have e1:D.nth (g.ops.map eN) k.toNat=eN g.ops[k.toNat]:=ay _ _ _ dO;have mb:=UE (x:=x) dO;have hlen:=Mh x (g.ops.take k.toNat);rw[zay] at hlen;have qks:o.length<=1200:=by rw[ho,zan];omega
  rw[u6,e1];generalize g.ops[k.toNat]=y at*
  have u0:D.aj (D.ar (eN y) 0)=y.kind:=rfl;have v:(D.aj (D.ar (eN y) 1)==D.aj (D.ar (bP x) 0)&&(D.aj (D.ar (eN y) 2)==D.aj (D.ar (bP x) 1)&&true)&&(D.aj (D.ar (eN y) 3)==D.aj (D.ar (bP x) 2)&&true))=(y.node==x.1):=EH y.node x.1;have Lb:0<=j/\j<((l.map aQ).length:Int):=by rw[zaa];exact⟨hb.2.2.1,hb.2.2.2⟩
  have gq:0<=i/\i<((p.map bP).length:Int):=by rw[zaa];exact⟨hb.1,hb.2.1⟩
  have Kf:0<=k/\k<((g.ops.map eN).length:Int):=by rw[zaa];exact⟨h0,uB⟩
  have kQ:=cY g;have MF:=ig x;have tE:=JJ y;rw[u0,v];refine ao Lb (aq kQ (bz Kf.2 (ao Lb (aq kQ (ao Kf (aq tE ?_))))));have bX: ¬(y.kind=0/\y.node=x.1)->o0++(g.ops.take (k.toNat+1)).flatMap (Ba x)=o:=λh=>by
   rw[mb,ho];have:Ba x y=[]:=by unfold Ba;rw[zal h]
   rw[this,zbe]
  refine az (λhk=>ao Lb (aq kQ (ao Kf (aq tE (ao gq (aq MF (az (λAV=> ?_) λAV=>ao (by omega) (hn o ⟨⟨hb,hx,hg,lX,Bd⟩,(bX (λhh=>by rw[hh.2] at AV;simp at AV)).symm⟩)))))))) λhk=>ao (by omega) (hn o ⟨⟨hb,hx,hg,lX,Bd⟩,(bX (λhh=>by rw[hh.1] at hk;simp at hk)).symm⟩);have dz:o0++(g.ops.take (k.toNat+1)).flatMap (Ba x)=o++[(x.1,x.2.1,x.2.2.1,y.dir)]:=by
   rw[mb,ho,za0];have:Ba x y=[(x.1,x.2.1,x.2.2.1,y.dir)]:=by unfold Ba;rw[zao ⟨by simpa using hk,by simpa using AV⟩]
   rw[this]
  have t1:List.take o.length (o.map bP)++[bP (x.1,x.2.1,x.2.2.1,y.dir)]=(o++[(x.1,x.2.1,x.2.2.1,y.dir)]).map bP:=cw bP o _;have hy:=hn (o++[(x.1,x.2.1,x.2.2.1,y.dir)]) ⟨⟨hb,hx,hg,lX,Bd⟩,dz.symm⟩;simp only[md9,qq,zan] at hy;rw[<-t1] at hy;refine ao gq (aq MF (ao Lb (aq kQ (ao Kf (aq tE (aq (eA rfl (by rw[zaa]) (by omega) (by decide)) (ao (by omega) ?_)))))));exact hy)
 (by
  rintro⟨l,p,o0,i,j,x,g⟩ o k ae hk ⟨⟨hb,hx,hg,lX,Bd⟩,ho⟩ bt;dsimp only at*
  (rw[<-qb1];delta iG Pp HX km uj Zn oL Zt qU ZK lZ EV cr cS fE Za Z9 Zj ZaI Zg fJ lS oY N9 Oa Ob ZaH s5 ri G7 H5 H6 OB H7 cK eD kL)
  rw[hx,hg];have u6:D.dy (D.ar (aQ g) 6)=g.ops.map eN:=rfl;rw[u6];have Lb:0<=j/\j<((l.map aQ).length:Int):=by rw[zaa];exact⟨hb.2.2.1,hb.2.2.2⟩
  refine ao Lb (aq (cY g) (kA (by rw[zaa];omega) (bt _ (λh=>by cases h) ?_)));rw[ho,zaj];rfl)
 (by rintro s ae ⟨l,p,o,i,j,hi,hj,rfl,⟨h1,h2,h3,h4⟩,hp⟩;refine⟨(l,p,o,i,j,p[i.toNat],l[j.toNat]),o,rfl,⟨⟨⟨h1.1,by show i<(p.length:Int);omega,h1.2.1,by show j<(l.length:Int);omega⟩,ay _ _ _ hi,ay _ _ _ hj,h3,h4⟩,by simp⟩,?_⟩;rintro z rfl;exact hp _ rfl)
theorem qaG:LD X 54 6 (ah (aL 54 6) qeY):=LD.idx (H:=[]) (hk:=[(9,ah (aL 54 9) qeX)]) (by kernel_rfl) (by kernel_rfl) .nil (.cons qaF .nil)
 (A:=List ak×List Pl×List Pl×Int×Pl) (B:=List Pl) (λa o j=>md6 a.1 a.2.1 o a.2.2.2.1 j) (λa=>a.1.length)
 (λa j o=>((0<=a.2.2.2.1/\a.2.1.length<=1000)/\(∃hi:a.2.2.2.1.toNat<a.2.1.length,a.2.1[a.2.2.2.1.toNat]=a.2.2.2.2)/\a.1.length<=1000000/\a.2.2.1.length<=999/\(∀g∈a.1,cE g=true)/\(a.1.map (·.s)).Nodup)/\o=a.2.2.1++EN (a.1.take j) a.2.2.2.2)
 (λa z=>z=(.exit 2,md3 a.1 a.2.1 (a.2.2.1++EN a.1 a.2.2.2.2) a.2.2.2.1))
 (by
  rintro⟨l,p,o0,i,x⟩ o j ae h0 Ff Ce ⟨⟨h1,⟨hi,hx⟩,h3,h4,h5,h6⟩,ho⟩ hn bt;dsimp only at*
  rw[<-qb2];have mb:=UF (x:=x) Ce;have h7:(EN (l.take j.toNat) x).length<=1:=(L9 x (λg hg=>h5 g (zbq hg)) (h6.sublist ((zcX _ _).map _))).1;have lX:o.length<=1000:=by rw[ho,zan];omega
  refine bz (by rw[zaa];exact Ff) ⟨l,p,o,i,j,hi,Ce,rfl,⟨⟨h1.1,h0,h1.2⟩,h3,lX,ui (h5 _ (zas Ce))⟩,λo' gg=>ao (by omega) (hn o' ⟨⟨h1,⟨hi,hx⟩,h3,h4,h5,h6⟩,?_⟩)⟩;rw[gg,ho,mb,hx,za0])
 (by
  rintro⟨l,p,o0,i,x⟩ o j ae hj ⟨hc,ho⟩ bt;dsimp only at*
  rw[<-qb2];refine kA (by rw[zaa];omega) (bt _ (λh=>by cases h) ?_);rw[ho,zaj])
 (by rintro s ae ⟨l,p,o,i,hi,rfl,⟨h1,h2,h3,h4,h5⟩,hp⟩;refine⟨(l,p,o,i,p[i.toNat]),o,rfl,⟨⟨h1,⟨hi,rfl⟩,h2,h3,h4,h5⟩,by simp[EN]⟩,?_⟩;rintro z rfl;exact hp _ rfl)
theorem qaH:LD X 54 3 (ah (aL 54 3) qeZ):=LD.idx (H:=[]) (hk:=[(6,ah (aL 54 6) qeY)]) (by kernel_rfl) (by kernel_rfl) .nil (.cons qaG .nil)
 (A:=List ak×List Pl) (B:=List Pl) (λa o i=>md3 a.1 a.2 o i) (λa=>a.2.length)
 (λa i o=>(a.2.length<=1000/\a.1.length<=1000000/\(∀g∈a.1,cE g=true)/\(a.1.map (·.s)).Nodup)/\o=H3 a.1 (a.2.take i))
 (λa z=>z=(.exit 0,⟨78,[(5,.sl 0 0 (H3 a.1 a.2).length)],[(0,⟨0,none,qq false (H3 a.1 a.2)⟩)]⟩))
 (by
  rintro⟨l,p⟩ o i ae h0 bR aY ⟨⟨h1,h2,h3,h4⟩,ho⟩ hn bt;dsimp only at*
  rw[<-qb3];have mb:=UG (l:=l) aY;have h7:=Eh h3 h4 (p.take i.toNat);rw[zay,<-ho] at h7;refine bz (by rw[zaa];exact bR) ⟨l,p,o,i,aY,rfl,⟨⟨h0,h1⟩,h2,by omega,h3,h4⟩,λo' gg=>ao (by omega) (hn o' ⟨⟨h1,h2,h3,h4⟩,?_⟩)⟩;rw[gg,ho,mb])
 (by
  rintro⟨l,p⟩ o i ae hi ⟨hc,ho⟩ bt;dsimp only at*
  rw[<-qb3];refine kA (by rw[zaa];omega) (bt _ (λh=>by cases h) ?_);rw[ho,zaj])
 (by rintro s ae ⟨l,p,rfl,hc,hp⟩;refine⟨(l,p),[],rfl,⟨hc,by simp[H3]⟩,?_⟩;rintro z rfl;exact hp _ rfl)
theorem qe1:FD X 54 Uw:=FD.mk (H:=[]) (hk:=[(3,ah (aL 54 3) qeZ)]) (by kernel_rfl) .nil (.cons qaH .nil) (by
 intro ps R ae hh;obtain⟨l,p,rfl,rfl,hc,hp⟩:=hh
 (rw[<-qjP];delta iG Pp HX km uj ZaK dA iR ZaL An Z7 Ed ZQ TJ lZ EV cr cS fE ZaJ)
 exact⟨l,p,rfl,hc,λo ho=>hp o ho⟩)
theorem UH:LD X 32 20 (ah (aL 32 20) UB):=LD.idx (H:=[]) (hk:=[]) (by kernel_rfl) (by kernel_rfl) .nil .nil
 (A:=OfP) (B:=Nat×List D) (λa b j=>qe0 a.m a.o a.y a.na a.np a.nh b.1 a.A a.P a.H b.2 a.i a.on a.k j) (λa=>a.y.cg.length)
 (λa j b=>(a.y.cg.length<=200/\a.L.length<=100000000000)/\b.1=b.2.length/\b.2=a.L++(if a.on=true then(a.y.cg.take j).map (λs=>jM (a.y.node,s)) else []))
 (λa x=> ∃bw L',cZ a.on a.y a.L.length a.L bw L'/\x=(.exit 4,Ux a.m a.o a.na a.np a.nh bw a.A a.P a.H L' a.i a.on a.k))
 (by
  rintro a ⟨nl,L⟩ j ae h0 Ff Ce ⟨⟨hd,hL⟩,rH,Kd⟩ hn ho;dsimp only at*
  (rw[<-UA];delta ES ET Wd Uy bU Zb2 An OC dX pd OD ZaZ ZaY dR Zb5 OE H8 OG OH OI w8 Bc OJ cr OL Uz Zt qt Ka R7 wS wT wU Ab AZ Ac A0 A1 lM Ad Ae Af Ag Ah vf vg vi wV Wl Zb4 Zn fI qT ZK OM ON H9 iQ Ia dA kW lW Za Z9 Zj Zg Z9v Wm zL nM)
  have e1:D.nth (a.y.cg.map bh) j.toNat=bh a.y.cg[j.toNat]:=ay _ _ _ Ce;have mb:(a.y.cg.take (j.toNat+1))=a.y.cg.take j.toNat++[a.y.cg[j.toNat]]:=zag Ce;rw[e1];generalize a.y.cg[j.toNat]=z at*
  have hLl:L.length<=a.L.length+200:=by
   rw[Kd,zan];split
   ·rw[zaa,zay];omega
   simp
  have Lb:j<((a.y.cg.map bh).length:Int):=by rw[zaa];exact Ff
  refine bz Lb (az (λEO=>ao ⟨h0,Lb⟩ (aq (jI _) (aq (eA rH rfl (by omega) (by decide)) (ao (by omega) (hn (nl+1,List.take nl L++[jM (a.y.node,z)]) ⟨⟨hd,hL⟩,?_,?_⟩))))) λqeO=>ho _ (λh=>by cases h) ⟨nl,L,⟨rH,?_⟩,rfl⟩)
  ·simp[rH]
  ·rw[EO,zao rfl] at Kd⊢;rw[mb,rH,zaj,Kd,zaB,za0];rfl
  rw[qeO] at Kd⊢;simpa using Kd)
 (by
  rintro a ⟨nl,L⟩ j ae hj ⟨⟨hd,hL⟩,rH,Kd⟩ ho;dsimp only at*
  (rw[<-UA];delta ES ET Wd Uy bU Zb2 An OC dX pd OD ZaZ ZaY dR Zb5 OE H8 OG OH OI w8 Bc OJ cr OL Uz Zt qt Ka R7 wS wT wU Ab AZ Ac A0 A1 lM Ad Ae Af Ag Ah vf vg vi wV Wl Zb4 Zn fI qT ZK OM ON H9 iQ Ia dA kW lW Za Z9 Zj Zg Z9v Wm zL nM)
  refine kA (by rw[zaa];omega) (ho _ (λh=>by cases h) ⟨nl,L,⟨rH,?_⟩,rfl⟩);rw[Kd,zaj];cases a.on
  ·rfl
  simp[Ho,zb6])
 (by rintro s ae ⟨m,o,y,na,np,nh,nl,A,P,H,L,i,on,k,rfl,⟨h1,h2,h3⟩,hp⟩;refine⟨⟨m,o,y,na,np,nh,A,P,H,i,on,k,L⟩,(nl,L),rfl,⟨⟨h1,by rw[<-h2];exact h3⟩,h2,by simp⟩,?_⟩;rintro z ⟨bw,L',hg,rfl⟩;exact hp bw L' ⟨hg.1,hg.2⟩)
theorem UI:LD X 32 11 (ah (aL 32 11) UD):=LD.idx (H:=[]) (hk:=[(20,ah (aL 32 20) UB)]) (by kernel_rfl) (by kernel_rfl) .nil (.cons UH .nil)
 (A:=OfQ) (B:=OfB) (λa b k=>Ux a.m a.o b.1 b.2.1 b.2.2.1 b.2.2.2.1 b.2.2.2.2.1 b.2.2.2.2.2.1 b.2.2.2.2.2.2.1 b.2.2.2.2.2.2.2 a.i a.on k) (λa=>a.g.ops.length)
 (λa k b=>(vw a.N a.t/\a.N<=300000000/\(0<=a.i/\a.i<a.m.length/\D.nth (a.m.map aQ) a.i.toNat=aQ a.g)/\a.g.ops.length<=200/\ ∀y∈a.g.ops,y.cg.length<=200)/\rX (GY a.on a.g.s (a.g.ops.take k) a.t) b.1 b.2.1 b.2.2.1 b.2.2.2.1 b.2.2.2.2.1 b.2.2.2.2.2.1 b.2.2.2.2.2.2.1 b.2.2.2.2.2.2.2)
 (λa x=> ∃pe pg ph bw A' P' H' L',rX (GY a.on a.g.s a.g.ops a.t) pe pg ph bw A' P' H' L'/\x=(.exit 2,of7 a.m a.o pe pg ph bw A' P' H' L' a.i))
 (by
  rintro⟨m,o,g,i,on,t,N⟩ ⟨na,np,nh,nl,A,P,H,L⟩ k ae h0 uB dO ⟨hc,hR⟩ hn ho;dsimp only at*
  (rw[<-UC];delta ES ET Wd Uy bU Zb2 An OC dX pd OD ZaZ ZaY dR Zb5 OE H8 OG OH OI w8 Bc OJ cr OL Uz Zt ZK Cj OM ON H9 iQ Ia dA kW lW Zn oL fI qT Za Z9 Zj rW R7 wS wT wU Ab AZ Ac A0 A1 lM Ad Ae Af Ag Ah vf vg vi wV Wl Zb4 Z7 qt Zbc Zbi Zbj Zg fJ lS Zb9 Zb8 Zb7 H5 Zbg Zbm my nO Zbb Zbf Zbe zL cK eD iA gX ki Zbn Zba ZE Zbh Zbd Zbk Zbl H6 OB H7)
  have kN:=(hc.1.ops (on:=on) (s:=g.s) hc.2.2.2.2 k.toNat (by omega)).mono (m:=300000200) (by have:=hc.2.1;have:=hc.2.2.2.1;omega);rw[hc.2.2.1.2.2];have u6:D.dy (D.ar (aQ g) 6)=g.ops.map eN:=rfl;have e1:D.nth (g.ops.map eN) k.toNat=eN g.ops[k.toNat]:=ay _ _ _ dO;have jQ:=zA (on:=on) (s:=g.s) (t:=t) dO;have ix:=hc.2.2.2.2 _ (zas dO);have sW:((k.toNat:Nat):Int)=k:=by omega
  rw[u6,e1];generalize g.ops[k.toNat]=y at jQ ix⊢;generalize GY on g.s (g.ops.take k.toNat) t=t1 at jQ hR kN;have u0:D.aj (D.ar (eN y) 0)=y.kind:=rfl;have tE:=JJ y;have kQ:=cY g;have gq:0<=i/\i<(m.length:Int):=⟨hc.2.2.1.1,hc.2.2.1.2.1⟩
  have vz:i.toNat<(m.map aQ).length:=by rw[zaa];omega
  have Kf:0<=k/\k<((g.ops.map eN).length:Int):=by rw[zaa];exact⟨h0,uB⟩
  simp only[u0];refine ao gq (ao vz (aq kQ (bz Kf.2 (ao gq (ao vz (aq kQ (ao Kf (aq tE ?_))))))));by_cases gB:y.kind=0
  ·rw[show(y.kind==0)=true by simp[gB],show(y.kind !=2)=true by simp[gB]];cases on with
   |true=>simp only[zbT];exact ao gq (ao vz (aq kQ (aq (eA hR.na (by rw[hR.a,zaa]) (by have:=kN.2.1;omega) (by decide)) (aq (eA hR.np (by rw[hR.p,zaa]) (by have:=kN.1;have:=kN.2.1;omega) (by decide)) (ao gq (ao vz (aq kQ (aq (eA hR.nh (by rw[hR.h,zaa]) (by have:=kN.2.2.1;omega) (by decide)) (⟨m,o,y,na+1,np+1,nh+1,nl,List.take na A++[bH (g.s.1,g.s.2,k)],List.take np P++[bP (sM y)],List.take nh H++[jM (y.node,g.s)],L,i,true,k,rfl,⟨ix,hR.nl.trans (by rw[hR.l,zaa]),by have:=hR.nl;have:=kN.2.2.2;omega⟩,λbw L' mW=>ao (by omega) (hn (na+1,np+1,nh+1,bw,List.take na A++[bH (g.s.1,g.s.2,k)],List.take np P++[bP (sM y)],List.take nh H++[jM (y.node,g.s)],L') ⟨hc,by rw[jQ];exact(hR.go sW mW).1 (by simp[fV,gB]) (by simp[gx,gB])⟩)⟩)))))))))
   |false=>simp only[zbT];exact ao gq (ao vz (aq kQ (aq (eA hR.na (by rw[hR.a,zaa]) (by have:=kN.2.1;omega) (by decide)) (aq (eA hR.np (by rw[hR.p,zaa]) (by have:=kN.1;have:=kN.2.1;omega) (by decide)) (⟨m,o,y,na+1,np+1,nh,nl,List.take na A++[bH (g.s.1,g.s.2,k)],List.take np P++[bP (sM y)],H,L,i,false,k,rfl,⟨ix,hR.nl.trans (by rw[hR.l,zaa]),by have:=hR.nl;have:=kN.2.2.2;omega⟩,λbw L' mW=>ao (by omega) (hn (na+1,np+1,nh,bw,List.take na A++[bH (g.s.1,g.s.2,k)],List.take np P++[bP (sM y)],H,L') ⟨hc,by rw[jQ];exact(hR.go sW mW).2.1 (by simp[fV,gB]) (by simp[gx,gB])⟩)⟩)))))
  by_cases fh:y.kind=1
  ·rw[show(y.kind==0)=false by simp[gB],show(y.kind==1)=true by simp[fh],show(y.kind !=2)=true by simp[fh]];cases on with
   |true=>simp only[zbT,zbn];exact ao gq (ao vz (aq kQ (aq (eA hR.na (by rw[hR.a,zaa]) (by have:=kN.2.1;omega) (by decide)) (aq (eA hR.np (by rw[hR.p,zaa]) (by have:=kN.1;have:=kN.2.1;omega) (by decide)) (ao gq (ao vz (aq kQ (aq (eA hR.nh (by rw[hR.h,zaa]) (by have:=kN.2.2.1;omega) (by decide)) (⟨m,o,y,na+1,np+1,nh+1,nl,List.take na A++[bH (g.s.1,g.s.2,k)],List.take np P++[bP (sM y)],List.take nh H++[jM (y.node,g.s)],L,i,true,k,rfl,⟨ix,hR.nl.trans (by rw[hR.l,zaa]),by have:=hR.nl;have:=kN.2.2.2;omega⟩,λbw L' mW=>ao (by omega) (hn (na+1,np+1,nh+1,bw,List.take na A++[bH (g.s.1,g.s.2,k)],List.take np P++[bP (sM y)],List.take nh H++[jM (y.node,g.s)],L') ⟨hc,by rw[jQ];exact(hR.go sW mW).1 (by simp[fV,fh]) (by simp[gx,fh])⟩)⟩)))))))))
   |false=>simp only[zbT,zbn];exact⟨m,o,y,na,np,nh,nl,A,P,H,L,i,false,k,rfl,⟨ix,hR.nl.trans (by rw[hR.l,zaa]),by have:=hR.nl;have:=kN.2.2.2;omega⟩,λbw L' mW=>ao (by omega) (hn (na,np,nh,bw,A,P,H,L') ⟨hc,by rw[jQ];exact(hR.go sW mW).2.2.2 (by simp[fV,fh]) (by simp[gx,fh])⟩)⟩
  by_cases Kg:y.kind=2
  ·rw[show(y.kind==0)=false by simp[gB],show(y.kind==1)=false by simp[fh],show(y.kind !=2)=false by simp[Kg]];cases on with
   |true=>simp only[zbn];exact⟨m,o,y,na,np,nh,nl,A,P,H,L,i,true,k,rfl,⟨ix,hR.nl.trans (by rw[hR.l,zaa]),by have:=hR.nl;have:=kN.2.2.2;omega⟩,λbw L' mW=>ao (by omega) (hn (na,np,nh,bw,A,P,H,L') ⟨hc,by rw[jQ];exact(hR.go sW mW).2.2.2 (by simp[fV,Kg]) (by simp[gx,Kg])⟩)⟩
   |false=>simp only[zbn];exact⟨m,o,y,na,np,nh,nl,A,P,H,L,i,false,k,rfl,⟨ix,hR.nl.trans (by rw[hR.l,zaa]),by have:=hR.nl;have:=kN.2.2.2;omega⟩,λbw L' mW=>ao (by omega) (hn (na,np,nh,bw,A,P,H,L') ⟨hc,by rw[jQ];exact(hR.go sW mW).2.2.2 (by simp[fV,Kg]) (by simp[gx,Kg])⟩)⟩
  rw[show(y.kind==0)=false by simp[gB],show(y.kind==1)=false by simp[fh],show(y.kind !=2)=true by simp[Kg]];cases on with
  |true=>simp only[zbn];exact ao gq (ao vz (aq kQ (aq (eA hR.nh (by rw[hR.h,zaa]) (by have:=kN.2.2.1;omega) (by decide)) (⟨m,o,y,na,np,nh+1,nl,A,P,List.take nh H++[jM (y.node,g.s)],L,i,true,k,rfl,⟨ix,hR.nl.trans (by rw[hR.l,zaa]),by have:=hR.nl;have:=kN.2.2.2;omega⟩,λbw L' mW=>ao (by omega) (hn (na,np,nh+1,bw,A,P,List.take nh H++[jM (y.node,g.s)],L') ⟨hc,by rw[jQ];exact(hR.go sW mW).2.2.1 (by simp[fV,gB,fh]) (by simp[gx,Kg])⟩)⟩))))
  |false=>simp only[zbn];exact⟨m,o,y,na,np,nh,nl,A,P,H,L,i,false,k,rfl,⟨ix,hR.nl.trans (by rw[hR.l,zaa]),by have:=hR.nl;have:=kN.2.2.2;omega⟩,λbw L' mW=>ao (by omega) (hn (na,np,nh,bw,A,P,H,L') ⟨hc,by rw[jQ];exact(hR.go sW mW).2.2.2 (by simp[fV,gB]) (by simp[gx])⟩)⟩)
 (by
  rintro⟨m,o,g,i,on,t,N⟩ ⟨na,np,nh,nl,A,P,H,L⟩ k ae hk ⟨hc,hR⟩ ho;dsimp only at*
  (rw[<-UC];delta ES ET Wd Uy bU Zb2 An OC dX pd OD ZaZ ZaY dR Zb5 OE H8 OG OH OI w8 Bc OJ cr OL Uz Zt ZK Cj OM ON H9 iQ Ia dA kW lW Zn oL fI qT Za Z9 Zj rW R7 wS wT wU Ab AZ Ac A0 A1 lM Ad Ae Af Ag Ah vf vg vi wV Wl Zb4 Z7 qt Zbc Zbi Zbj Zg fJ lS Zb9 Zb8 Zb7 H5 Zbg Zbm my nO Zbb Zbf Zbe zL cK eD iA gX ki Zbn Zba ZE Zbh Zbd Zbk Zbl H6 OB H7)
  rw[hc.2.2.1.2.2];have u6:D.dy (D.ar (aQ g) 6)=g.ops.map eN:=rfl;rw[u6];rw[zaj] at hR;have gq:0<=i/\i<(m.length:Int):=⟨hc.2.2.1.1,hc.2.2.1.2.1⟩
  have vz:i.toNat<(m.map aQ).length:=by rw[zaa];omega
  exact ao gq (ao vz (aq (cY g) (kA (by rw[zaa];omega) (ho _ (λh=>by cases h) ⟨na,np,nh,nl,A,P,H,L,hR,rfl⟩)))))
 (by rintro s ae ⟨m,o,na,np,nh,nl,A,P,H,L,i,on,t,N,hi,rfl,⟨h1,h2,h3,h4⟩,hp⟩;refine⟨⟨m,o,m[i.toNat],i,on,t,N⟩,(na,np,nh,nl,A,P,H,L),rfl,⟨⟨h2,h3,⟨h4.1,by show i<(m.length:Int);omega,ay _ _ _ hi⟩,h4.2.1,h4.2.2⟩,h1⟩,?_⟩;rintro z ⟨pe,pg,ph,bw,A',P',H',L',g1,rfl⟩;exact hp pe pg ph bw A' P' H' L' g1)
end
abbrev qaI(l:List aw)(s:aw)(k:Int):S:=⟨19,[(0,gh l),(3,.ref 0 0 0),(7,iD ((l.map bh).length:Int)),(8,iD k)],[(0,⟨0,none,.box 30 [iD s.1,iD s.2]⟩)]⟩
theorem UJ(l:List aw)(s:aw)(k:Int)(ae:PX×S->Prop):(bif Pc k l then bif Lw k l then bif uD l k then bif Prod.fst s==EG l k&&(Prod.snd s==GH l k&&true) then ae (PX.ret,S.mk 19 (A6 k) []) else bif Zj k then ae (PX.normal,S.mk 19 (Ol l::cN::(7,P.d (D.int .i64 (A3 l)))::oL k) (Hg s)) else False else False else False else ae (PX.exit 0,S.mk 19 [] []))=(aD [] [] 69 2 (qaI l s k)) ae:=by kernel_rfl
def qe2:S->K (PX×S):=λst ae=> ∃l s,st=qaI l s 0/\l.length<=1000000/\(∀i:Int,i=jH (λx=>x==s) l->0<=i->ae (.ret,⟨19,[(4,iD i)],[]⟩))/\(jH (λx=>x==s) l= -1->ae (.exit 0,⟨19,[],[]⟩))
def Zbo(l:List aw)(s:aw):S:=S.mk 19 (Ol l::cN::(7,P.d (D.int .i64 (A3 l)))::Ec) (Hg s)
theorem qhV(l:List aw)(s:aw)(ae:P×List (Nat×En)->Prop):(∃(au:List aw) (iP:aw),Zbo l s=Zbo au iP/\mR au/\(∀(i:Int),i=jH (λ(x:aw)=>x==iP) au->(0:Int)<=i->ae (P.d (Zt i),[]))/\(jH (λ(x:aw)=>x==iP) au=(-1:Int)->pk ae))=(aJ [] [(2,ah (aL 69 2) qe2)] 69 [gh l,.d (bh s)] []) ae:=by kernel_rfl
def qe3:bm:=λps R ae=> ∃l s,ps=[gh l,.d (bh s)]/\R=[]/\l.length<=1000000/\ ∀i,i=jH (λx=>x==s) l->ae (iD i,[])
theorem qhW(l:List aw)(s:aw)(ae:P×List (Nat×En)->Prop):(∃(au:List aw) (iP:aw),lN l::mP s=lN au::mP iP/\Zx/\mR au/\ ∀(i:Int),i=jH (λ(x:aw)=>x==iP) au->ae (P.d (D.bool (Z2 i)),[]))=(aJ [(69,qe3)] [] 38 [gh l,.d (bh s)] []) ae:=by kernel_rfl
def Hr:bm:=λps R ae=> ∃l s,ps=[gh l,.d (bh s)]/\R=[]/\l.length<=1000000/\ ∀b,b=decide (s∈l)->ae (.d (.bool b),[])
def Kh:bm:=λps R ae=> ∃l,ps=[bC l]/\R=[]/\jP l/\ ∀o,o=JX l->ae (.sl 0 0 o.length,[(0,⟨0,none,mA false o⟩)])
abbrev El:Nat:=101
abbrev kpU:Option (List Nat×List Nat):=some ([4,5,6],[4,5,6])
abbrev vlR(own:List ak):List (Nat×En):=[(0,⟨0,some 1,.eE⟩),(1,⟨0,some 0,.box 22 [bC own]⟩)]
abbrev Ao(own:List ak)(i:Int):S:=⟨16,[(0,.mp 0 0),(1,.ref 1 0 0),(5,bC own),(6,iD ((own.map aQ).length:Int)),(7,iD i)],vlR own⟩
abbrev Wu(own:List ak):S:=⟨16,[(0,.mp 0 0),(1,.ref 1 0 0)],vlR own⟩
abbrev Wv(z:Bool)(on:List aw)(x:aw)(e:Int):S:=⟨27,[(4,.ref 0 0 0),(5,.ref 1 0 0),(6,.ref 2 0 0)],[(0,⟨0,none,.box 30 [iD x.1,iD x.2]⟩),(1,⟨0,none,.box 35 [iD e]⟩),(2,⟨0,none,.box 51 [.sl 3 0 on.length]⟩),(3,⟨0,none,mA z on⟩)]⟩
def Ww(own:List ak):List (Nat×En):=[(0,En.mk 0 (some 1) Obj.eE),(1,En.mk 0 (some 0) (Obj.box (22:TypeId) [cS own]))]
def Wx:Nat×P:=(0,P.mp 0 0)
def Ki(own:List ak):S:=S.mk 16 [Wx,(1,iQ)] (Ww own)
def Mi(on:List aw):Nat×En:=(3,pd on)
def Ap(on:List aw):Nat×En:=(2,En.mk 0 none (Obj.box (51:TypeId) [P.sl 3 0 (dR on)]))
def OO:En:=En.mk 0 none (Obj.box (35:TypeId) mr)
def Aq:Nat×En:=(1,OO)
def Kj:Nat×P:=(6,s6)
def Zbw:List (Nat×P):=[kY,J3,Kj]
def ZbG(on:List aw):PX×S:=(PX.normal,S.mk 27 Zbw [qu,Aq,Ap on,Mi on])
def UK(own:List ak)(i:Int):S:=S.mk 16 (Wx::(1,iQ)::(5,cS own)::(6,D0 own)::ZL i) (Ww own)
def ZbB(on:List aw):Nat×En:=(3,En.mk 0 none (Obj.arr (30:TypeId) true (dX on)))
def ZbD(on:List aw):PX×S:=(PX.normal,S.mk 27 Zbw [qu,Aq,Ap on,ZbB on])
def OP(own:List ak)(i:Int):Nat×En:=(0,En.mk 0 none (Obj.box (30:TypeId) [P.d (nO own i),P.d (my own i)]))
def Ib(b:Bool)(l:List aw)(s:aw):Prop:=b=decide (s∈l)
def UL(on:List aw):D:=D.sl 2 (List.take (dR on) (dX on))
def ZbE(on:List aw)(own:List ak)(i:Int)(ae:PX×S×PX×S->Prop):Prop:= ∃(l:List aw) (s:aw),P.d (UL on)::D2 own i=lN l::mP s/\Zx/\mR l/\ ∀(b:Bool),Ib b l s->bif b then ae (PX.ret,Ki own,PX.ret,S.mk 27 Zbw [OP own i,Aq,Ap on,ZbB on]) else bif Zj i then ae (PX.normal,UK own i,ZbD on) else False
def Ic(own:List ak)(i:Int):Bool:=D.aj (D.ar (fJ own i) 4)==(0:Int)&&(D.aj (D.ar (fJ own i) 5)==(0:Int)&&true)
theorem qjQ(own:List ak)(on:List aw)(i:Int)(ae:PX×S×PX×S->Prop):(bif qP i own then bif kL i own then bif cK own i then bif Ic own i then ZbE on own i ae else bif Zj i then ae (PX.normal,UK own i,ZbG on) else False else False else False else ae (PX.exit 0,Ki own,ZbG on))=(mz [(38,Hr)] [] 19 4 2000000 kpU 1 El 1 (Ao own i,(.normal,Wv false on (0,0) 0))) ae:=by kernel_rfl
theorem qjR(own:List ak)(on:List aw)(i:Int)(ae:PX×S×PX×S->Prop):(bif qP i own then bif kL i own then bif cK own i then bif Ic own i then ZbE on own i ae else bif Zj i then ae (PX.normal,UK own i,ZbD on) else False else False else False else ae (PX.exit 0,Ki own,ZbD on))=(mz [(38,Hr)] [] 19 4 2000000 kpU 1 El 1 (Ao own i,(.normal,Wv true on (0,0) 0))) ae:=by kernel_rfl
def gUn:zx:=λy ae=> ∃own on,(own.length<=1000000/\on.length<=1000000)/\y=(Ao own 0,(.normal,Wv false on (0,0) 0))/\
 (∀z s,cq on own=some s->ae (.ret,Wu own,(.ret,Wv z on s 0)))/\(∀z,cq on own=none->ae (.exit 0,Wu own,(.normal,Wv z on (0,0) 0)))
abbrev unA(l own:List ak)(on:List aw)(r:Int):S:=⟨27,[(0,bC l),(1,iD r),(4,.ref 1004 0 0),(5,.ref 1005 0 0),(6,.ref 1006 0 0),(8,bC l),(9,.sl 1009000 0 on.length),(10,bC l),(11,iD r),(12,.fn El [.ref 1012000 0 0])],
 [(1004,⟨0,none,.box 30 [iD 0,iD 0]⟩),(1005,⟨0,none,.box 35 [iD 0]⟩),(1006,⟨0,none,.box 51 [.sl 1009000 0 on.length]⟩),(1006000,⟨0,none,.arr 30 false []⟩),(1009000,⟨0,none,mA false on⟩),(1012000,⟨0,none,.box 22 [bC own]⟩)]⟩
def ZbI(aN:List aw)(z:Bool):List (Nat×En):=[Aq,Ap aN,(3,En.mk 0 none (Obj.arr (30:TypeId) z (dX aN)))]
def ZbH(own:List ak):S:=S.mk 16 (Wx::(1,iQ)::(5,cS own)::(6,D0 own)::sw) (Ww own)
theorem qjS(l own:List ak)(on:List aw)(r:Int)(ae:PX×S->Prop):(∃(rY:List ak) (aN:List aw),(iR rY/\mR aN)/\(ZbH own,ZbG on)=(ZbH rY,ZbG aN)/\(∀(z:Bool) (s:aw),cq aN rY=some s->ae (PX.ret,S.mk 27 Zbw (xA s::ZbI aN z)))/\ ∀(z:Bool),cq aN rY=none->ae (PX.normal,S.mk 27 Zbw (qu::ZbI aN z)))=(xy [] [] (λfi yt=>if Nat.beq fi El&&Nat.beq yt 1 then [(1,ey (aL El 1) gUn)] else []) 19 4 2000000 kpU (unA l own on r)) ae:=by kernel_rfl
def qe4:S->K (PX×S):=λs ae=> ∃l own on r,s=unA l own on r/\(own.length<=1000000/\on.length<=1000000)/\(∀z s,cq on own=some s->ae (.ret,Wv z on s 0))/\(∀z,cq on own=none->ae (.normal,Wv z on (0,0) 0))
def stO(a:aw×Int):P:= .cT [.d (bh a.1),iD a.2]
def ZbN(ae:P×List (Nat×En)->Prop):Prop:=ae (P.cT [P.d (D.agg [Z7,Z7]),P.d (D.int .i64 (200:Int))],[])
def ZbM(ae:P×List (Nat×En)->Prop)(s:aw):Prop:=ae (P.cT (qe s::mr),[])
def ZbK(aP:List ak):En:=En.mk 0 none (Obj.box (22:TypeId) [cS aP])
def ZbL(l:List ak)(r:Int)(o:List aw)(aP:List ak):S:=S.mk 27 [fE l,ZF r,(4,P.ref 1004 0 0),(5,P.ref 1005 0 0),(6,P.ref 1006 0 0),(8,cS l),(9,P.sl 1009000 0 (dR o)),(10,cS l),(11,P.d (Zt r)),(12,P.fn (101:FuncId) [P.ref 1012000 0 0])] [(1004,rb),(1005,OO),(1006,En.mk 0 none (Obj.box (51:TypeId) [P.sl 1009000 0 (dR o)])),(1006000,w8),(1009000,pd o),(1012000,ZbK aP)]
def tc(l:List ak)(r:Int):List P:=cS l::Zv r
theorem qjT(l:List ak)(r:Int)(ae:P×List (Nat×En)->Prop):(∃(au:List ak),rn l au/\Zx/\jP au/\ ∀(o:List aw),o=JX au-> ∃(eX:List ak) (bY:Int),tc l r=tc eX bY/\Zx/\jP eX/\ ∀(aP:List ak),aP=zr (aC eX) bY-> ∃(kM:List ak) (own:List ak) (on:List aw) (z8:Int),ZbL l r o aP=ZbL kM z8 on own/\(iR own/\mR on)/\(∀(_:Bool) (s:aw),cq on own=some s->ZbM ae s)/\ ∀(_:Bool),cq on own=none->ZbN ae)=(sH [(36,Uo)] [(35,Kh)] [(500004,qe4)] 19 [bC l,iD r] []) ae:=by kernel_rfl
theorem qhX(s x:aw):(s.1==x.1&&(s.2==x.2&&true))=(x==s):=by rw[zaH];obtain⟨a,b⟩:=s;obtain⟨c,d⟩:=x;simp;omega
section
variable{X:XF}
theorem qaJ:LD X 69 2 (ah (aL 69 2) qe2):=
 LD.find (H:=[]) (hk:=[]) (by kernel_rfl) (by kernel_rfl) .nil .nil
  (A:=List aw×aw) (λa k=>qaI a.1 a.2 k) (·.1) (λa _ x=>x==a.2) (λa=>a.1.length<=1000000) (λa i=>(.ret,⟨19,[(4,iD i)],[]⟩)) (λa=>(.exit 0,⟨19,[],[]⟩)) (λ_ _ h=>by cases h) (λ_ h=>by cases h)
  (by
   rintro⟨l,s⟩ k ae dO hm h0 hk ht hf;dsimp only at*
   (rw[<-UJ];delta gV gW uG xA Hg Zn oL dX A3 bT cN lN Ol Za Z9 Zj Zt nP A6 Zg GH EG uD Lw Pc)
   have e1:D.nth (l.map bh) k.toNat=bh l[k.toNat]:=ay _ _ _ dO;have v:(s.1==D.aj (D.ar (bh l[k.toNat]) 0)&&(s.2==D.aj (D.ar (bh l[k.toNat]) 1)&&true))=(l[k.toNat]==s):=qhX _ _;rw[e1,v];simp only[qaI,zaa] at hf⊢;exact bz hk (ao ⟨h0,hk⟩ (aq (jI _) (az (λh=>ht h) λh=>ao (by omega) (hf h)))))
  (by
   rintro⟨l,s⟩ k ae hm hk hp;dsimp only at*
   (rw[<-UJ];delta gV gW uG xA Hg Zn oL dX A3 bT cN lN Ol Za Z9 Zj Zt nP A6 Zg GH EG uD Lw Pc)
   exact kA (by rw[zaa];omega) hp)
  (by rintro st ae ⟨l,s,rfl,hm,h1,h2⟩;exact⟨(l,s),rfl,hm,λi hi h0 ht hb=>h1 i (by rw[GG hi ht hb];omega) h0,λh=>h2 (Lu h)⟩)
theorem qhY:FD X 69 qe3:=FD.mk (H:=[]) (hk:=[(2,ah (aL 69 2) qe2)]) (by kernel_rfl) .nil (.cons qaJ .nil) (by
 intro ps R ae hh;obtain⟨l,s,rfl,rfl,hm,hp⟩:=hh
 (rw[<-qhV];delta Lq pk Zt dR mR gV gW uG xA Hg Z7 Ec dX A3 bT cN lN Ol Zbo)
 exact⟨l,s,rfl,hm,λi hi _=>hp i hi,λh=>hp _ h.symm⟩)
theorem qb5:FD X 38 Hr:=FD.mk (H:=[(69,qe3)]) (hk:=[]) (by kernel_rfl) (.cons qhY .nil) .nil (by
 intro ps R ae hh;obtain⟨l,s,rfl,rfl,hm,hp⟩:=hh
 (rw[<-qhW];delta Z2 dR mR Zx gV gW qe mP dX lN)
 refine⟨l,s,rfl,rfl,hm,λi hi=>hp _ ?_⟩;have h:=zm (λx=>x==s) l;rw[<-hi] at h;rw[zaH,zai,zai];have h2:(l.any λx=>x==s)=true↔s∈l:=by simp[zby]
 rw[<-h2];constructor
 ·intro hge;refine zaM λhn=> ?_;rw[zaX] at hn;have:=h.2 hn;omega
 intro ha;refine zaM λhn=> ?_;have:=h.1 (by omega);rw[this] at ha;cases ha)
end
theorem qW(l:List ak):(JX l).length<=l.length:=by have h1:=Ys ((aC l).map fa);have h2:=cF l;rw[zaa] at h1;unfold JX;omega
section
variable{X:XF}{w0:World}(hX:dC PR w0 X.cf)
include hX
theorem qjU:LY w0 19 4 1 El 1 (ey (aL El 1) gUn):=LY.par hX (H:=[(38,Hr)]) (HN:=[]) (base:=2000000) (keep:=kpU) EJ (.cons qb5 .nil) .nil (by kernel_rfl) (by kernel_rfl) (by kernel_rfl)
 (A:=List ak×List aw) (B:=Bool×Int)
 (λa b=>(Ao a.1 b.2,(.normal,Wv b.1 a.2 (0,0) 0)))
 (λa b=>(a.1.length<=1000000/\a.2.length<=1000000)/\0<=b.2/\b.2.toNat<=a.1.length/\cq a.2 a.1=cq a.2 (a.1.drop b.2.toNat))
 (λa b=>((a.1.length:Int)-b.2).toNat)
 (λa x=>(∃z s,cq a.2 a.1=some s/\x=(.ret,Wu a.1,(.ret,Wv z a.2 s 0)))\/(∃z,cq a.2 a.1=none/\x=(.exit 0,Wu a.1,(.normal,Wv z a.2 (0,0) 0))))
 (by
  rintro⟨own,on⟩ ⟨z,i⟩ ⟨hm,h0,hi,hu⟩;dsimp only at*
  have key: ∀(aY:i.toNat<own.length),cq on own=if own[i.toNat].bN=(0,0)/\own[i.toNat].s∈on then some own[i.toNat].s else cq on (own.drop (i+1).toNat):=λaY=>by rw[hu,zaY aY,show(i+1).toNat=i.toNat+1 by omega];rfl
  have AT: ¬i.toNat<own.length->cq on own=none:=λaY=>by rw[hu,List.drop_of_length_le (by omega)];rfl
  have tk:List.take on.length (on.map bh)=on.map bh:=zah (by simp);cases z with
  |false=>
   (rw[<-qjQ];delta cr cS Ww iQ Wx Ki dX pd Mi dR Ap Z7 mr OO Aq rb qu s6 Kj J3 bT kY Zbw ZbG Zn ZL eD D0 UK Za Z9 Zj ZbB ZbD Zg fJ my nO OP Ib mR Zx gV gW qe mP lN sI D2 UL ZbE Ic cK kL qP)
   rw[zaa];refine b7 (λhp=> ?_) λhp=> .inr ⟨false,AT (by omega),rfl⟩;have aY:i.toNat<own.length:=by omega
   have e1:D.nth (own.map aQ) i.toNat=aQ own[i.toNat]:=ay _ _ _ aY;have key:=key aY;rw[e1,tk];generalize own[i.toNat]=g at*
   have u1:D.aj (D.ar (aQ g) 4)=g.bN.1:=rfl;have u2:D.aj (D.ar (aQ g) 5)=g.bN.2:=rfl;rw[u1,u2];refine ao ⟨h0,hp⟩ (aq (cY _) (az (λh=>⟨on,g.s,rfl,rfl,hm.2,λb hb=> ?_⟩) λh=>ao (by omega) ?_))
   ·have hz:g.bN=(0,0):=by simp only[zbu,zab,zaT] at h;exact zdg h.1 h.2
    subst hb;refine b7 (λhb=> .inl ⟨true,g.s,by rw[key,zao ⟨hz,hb⟩],rfl⟩) λhb=>ao (by omega) ?_;exact⟨((own.length:Int)-(i+1)).toNat,by omega,(true,i+1),by simp only[Ao,zaa],⟨hm,by show 0<=i+1;omega,by show(i+1).toNat<=_;omega,by show cq on own=cq on (own.drop (i+1).toNat);rw[key,zal (λhh=>hb hh.2)]⟩,rfl⟩
   have hz: ¬g.bN=(0,0):=λhz=>by rw[hz] at h;simp at h
   exact⟨((own.length:Int)-(i+1)).toNat,by omega,(false,i+1),by simp only[Ao,zaa],⟨hm,by show 0<=i+1;omega,by show(i+1).toNat<=_;omega,by show cq on own=cq on (own.drop (i+1).toNat);rw[key,zal (λhh=>hz hh.1)]⟩,rfl⟩
  |true=>
   (rw[<-qjR];delta cr cS Ww iQ Wx Ki dX ZbB dR Ap Z7 mr OO Aq rb qu s6 Kj J3 bT kY Zbw ZbD Zn ZL eD D0 UK Za Z9 Zj Zg fJ my nO OP Ib mR Zx gV gW qe mP lN sI D2 UL ZbE Ic cK kL qP)
   rw[zaa];refine b7 (λhp=> ?_) λhp=> .inr ⟨true,AT (by omega),rfl⟩;have aY:i.toNat<own.length:=by omega
   have e1:D.nth (own.map aQ) i.toNat=aQ own[i.toNat]:=ay _ _ _ aY;have key:=key aY;rw[e1,tk];generalize own[i.toNat]=g at*
   have u1:D.aj (D.ar (aQ g) 4)=g.bN.1:=rfl;have u2:D.aj (D.ar (aQ g) 5)=g.bN.2:=rfl;rw[u1,u2];refine ao ⟨h0,hp⟩ (aq (cY _) (az (λh=>⟨on,g.s,rfl,rfl,hm.2,λb hb=> ?_⟩) λh=>ao (by omega) ?_))
   ·have hz:g.bN=(0,0):=by simp only[zbu,zab,zaT] at h;exact zdg h.1 h.2
    subst hb;refine b7 (λhb=> .inl ⟨true,g.s,by rw[key,zao ⟨hz,hb⟩],rfl⟩) λhb=>ao (by omega) ?_;exact⟨((own.length:Int)-(i+1)).toNat,by omega,(true,i+1),by simp only[Ao,zaa],⟨hm,by show 0<=i+1;omega,by show(i+1).toNat<=_;omega,by show cq on own=cq on (own.drop (i+1).toNat);rw[key,zal (λhh=>hb hh.2)]⟩,rfl⟩
   have hz: ¬g.bN=(0,0):=λhz=>by rw[hz] at h;simp at h
   exact⟨((own.length:Int)-(i+1)).toNat,by omega,(true,i+1),by simp only[Ao,zaa],⟨hm,by show 0<=i+1;omega,by show(i+1).toNat<=_;omega,by show cq on own=cq on (own.drop (i+1).toNat);rw[key,zal (λhh=>hz hh.1)]⟩,rfl⟩)
 (by
  rintro y ae ⟨own,on,h1,rfl,h2,h3⟩;refine⟨(own,on),(false,0),rfl,⟨h1,zbz _,by simp,rfl⟩,?_⟩;rintro x (⟨z,s,h,rfl⟩| ⟨z,h,rfl⟩)
  ·exact h2 z s h
  exact h3 z h)
theorem qjV:FN w0 19 4 qe4:=FN.mk hX (H:=[]) (HN:=[]) EJ .nil .nil (base:=2000000) (keep:=kpU) (by kernel_rfl) (hk:=λfi yt=>if Nat.beq fi El&&Nat.beq yt 1 then [(1,ey (aL El 1) gUn)] else [])
 (by
  intro fi yt h Aj hl;split at hl
  next hb=>
   rw[zab] at hb;have e1:=zaf hb.1;have e2:=zaf hb.2;subst e1 e2;unfold lk at hl;split at hl
   next he=>have e3:=zaf he;subst e3;cases hl;exact⟨by kernel_rfl,qjU hX⟩
   cases hl
  cases hl)
 (by
  rintro s ae ⟨l,own,on,r,rfl,hm,h1,h2⟩
  (rw[<-qjS];delta Z7 mr rb qu dX dR Ap OO Aq ZbI gV gW uG xA s6 Kj iQ J3 bT kY Zbw pd Mi ZbG cr cS Ww sw eD D0 Wx ZbH mR dA iR)
  exact⟨own,on,hm,rfl,h1,h2⟩)
def wG:bm:=λps R ae=> ∃l r,ps=[bC l,iD r]/\R=[]/\jP l/\ ∀a,a=rS l r->ae (stO a,[])
theorem qe5(hV:ND w0 35 Kh):ND w0 19 wG:=ND.mk hX (H:=[(36,Uo)]) (HN:=[(35,Kh)]) (hk:=[(500004,qe4)]) EJ (by kernel_rfl) (by kernel_rfl) (.cons qbW .nil) (.cons hV .nil) (.range (qjV hX) .nil) (by
 intro ps R ae hh;obtain⟨l,r,rfl,rfl,hs,hp⟩:=hh
 (rw[<-qjT];delta Z7 ZbN mr gV gW qe ZbM dR mR dA iR cr cS ZbK dX pd w8 OO rb Zt ZF fE ZbL Zv tc Zx rn)
 have hl:=hs.1;have h1:=qW l;have h2:=cF l;have h3:(zr (aC l) r).length<=(aC l).length:=by rw[(vq _ _).length_eq];exact zaU _ _
 refine⟨l,rfl,rfl,hs,λo ho=>⟨l,r,rfl,rfl,hs,λow how=>⟨l,ow,o,r,rfl,⟨by rw[how];omega,by rw[ho];omega⟩,λ_ s h=> ?_,λ_ h=> ?_⟩⟩⟩
 ·exact hp (s,0) (by unfold rS;rw[<-ho,<-how,h];rfl)
 exact hp ((0,0),200) (by unfold rS;rw[<-ho,<-how,h];rfl))
end
def qe6:S->K (PX×S):=λs ae=> ∃m o,s=of7 m o 0 0 0 0 [] [] [] [] 0/\(m.length<=1000000/\o.length<=1000000/\ ∀g∈m,cE g=true)/\ ∀na np nh nl A P H L,rX (vv o m) na np nh nl A P H L->ae (.exit 0,⟨140,[(0,.sl 0 0 m.length),(2,.ref 1 0 0),(3,.ref 7 0 0),(4,.sl 13 0 na),(5,.sl 14 0 np)],ofR m o nh nl A P H L⟩)
def UM(Bf:List av):P:=P.d (D.sl 3 (List.take (iq Bf) (gD Bf)))
def ZbO(m:List ak):P:=P.d (D.sl 7 (List.take (dA m) (cr m)))
def ZbQ(m:List ak)(o:List aw):S:=S.mk 140 (lW m::Ia::H9::(4,P.sl 13 0 0)::(5,P.sl 14 0 0)::Ed) [OL m,OJ,Bc,OI,OH,OG,OE,(7,En.mk 0 none (Obj.box (69:TypeId) (P.sl 8 0 (dR o)::ZaY::P.sl 10 0 0::P.sl 11 0 0::ZaZ))),OD o,OC,(10,H8),(11,H8),Uy,(13,Ma),(14,An)]
def ZbP(m:List ak)(l:List ak):Prop:=[ZbO m]=[cS l]
theorem qjW(l:List ak)(ae:P×List (Nat×En)->Prop):(∃(au:List ak),rn l au/\Zx/\jP au/\ ∀(m:List ak),m=aC au-> ∃(l:List ak),ZbP m l/\Zx/\iR l/\ ∀(o:List Hd),o=List.map fa l-> ∃(l:List Hd),[P.d (D.sl 4 (D5 o))]=Z8H l/\Zx/\mQ l/\ ∀(o:List aw),o=Yq l-> ∃(bO:List ak) (aP:List aw),ZbQ m o=ZbQ bO aP/\(iR bO/\mR aP/\ZaK bO)/\ ∀(na np nh nl:Nat) (A P H L:List D),rX (vv aP bO) na np nh nl A P H L-> ∃(a:List av) (l:List Pl),[Pi.P.d (D.sl 3 (List.take na A)),Pi.P.d (D.sl 8 (List.take np P))]=[ma a,lZ l]/\Zx/\(qp a/\km l=iq a)/\ ∀(o:List Pl),o=Og (J9 a l)-> ∃(l:List ak) (p:List Pl),[ZbO bO,Pi.P.d (D.sl 8 (List.take (km o) (iG o)))]=[cS l,lZ p]/\Zx/\ZaL p l/\ ∀(o:List Pl),o=H3 l p-> ∃(h:List bj) (g:List bj),[Pi.P.d (D.sl 5 (List.take nh H)),Pi.P.d (D.sl 5 (List.take nl L))]=[Bb h,Bb g]/\Zx/\(Ci h/\Ci g)/\ ∀(Bf:List av),Bf=Oh h g-> ∃(l:List Pl) (v:List av),[Pi.P.d (D.sl 8 (List.take (km o) (iG o))),UM Bf]=[lZ l,ma v]/\Zx/\(km l<=1000/\qp v)/\ae (Pi.P.d (D.agg [UL aP,D.sl 8 (List.take (km o) (iG o)),D.sl 5 (List.take nh H),D.sl 5 (List.take nl L),D.sl 6 (List.take (List.length (kj (pn l) v)) (List.map fF (kj (pn l) v)))]),[]))=(aJ [(40,nE),(44,Oo),(53,qel),(55,qeW),(54,Uw),(57,TK),(56,Ee)] [(7,ah (aL 32 7) qe6)] 32 [bC l] []) ae:=by kernel_rfl
def Kk(l:List ak)(t:Tl):List Pl:=H3 l (Og (J9 t.a t.p))
def qaK(l:List ak)(t:Tl):List It:=kj (pn (Kk l t)) (Oh t.h t.g)
def qhZ(o:List aw)(p:List Pl)(h g:List bj)(x:List It):P:= .d (.agg [.sl 2 (o.map bh),.sl 8 (p.map bP),.sl 5 (h.map jM),.sl 5 (g.map jM),.sl 6 (x.map fF)])
def Pu(l:List ak):Prop:=jP l/\SmV l
def zM:bm:=λps R ae=> ∃l,ps=[bC l]/\R=[]/\Pu l/\ ∀o t p x,o=JX l->t=vv o (aC l)->p=Kk (aC l) t->x=qaK (aC l) t->ae (qhZ o p t.h t.g x,[])
abbrev ru(o:List aw)(m:List ak)(i:Int):S:=⟨44,[(4,.ref 0 0 0),(6,gh o),(7,.sl 1 0 m.length),(8,iD i)],[(0,⟨0,none,rj (0,0)⟩),(1,⟨0,none,kV false m⟩)]⟩
def ZbS(m:List ak):List (Nat×En):=[qu,sP m]
def ZbT(i:Int)(ae:PX×S->Prop)(o:List aw)(m:List ak):Prop:=bif Zb i then ae (PX.normal,S.mk 44 (kY::(6,lN o)::(7,mZ m)::Z8i i) (ZbS m)) else False
theorem qjX(o:List aw)(m:List ak)(i:Int)(ae:PX×S->Prop):(bif Z2 i then bif ki i m then bif iA i m then bif cK m i then bif Ic m i then bif ki i m then bif iA i m then bif cK m i then∃(l:List aw) (x:aw),lN o::D2 m i=lN l::mP x/\Zx/\mR l/\ ∀(b:Bool),Ib b l x->bif b then bif ki i m then bif iA i m then bif cK m i then ae (PX.ret,S.mk 44 (kY::ZN) [OP m i]) else False else False else False else ZbT i ae o m else False else False else False else ZbT i ae o m else False else False else False else ae (PX.exit 0,S.mk 44 [kY] Ot))=(aD [(42,Om)] [] 24 4 (ru o m i)) ae:=by kernel_rfl
def qe7:S->K (PX×S):=λs ae=> ∃o m i,s=ru o m i/\(i=(m.length:Int)-1/\m.length<=1000000/\o.length<=1000000)/\(∀x,cq o m.reverse=some x->ae (.ret,⟨44,[(4,.ref 0 0 0),(5,iD 0)],[(0,⟨0,none,rj x⟩)]⟩))/\(cq o m.reverse=none->ae (.exit 0,⟨44,[(4,.ref 0 0 0)],[(0,⟨0,none,rj (0,0)⟩)]⟩))
def ZbU(aP:List ak):Bool:=decide (Z9<=gX aP-(1:Int)/\gX aP-(1:Int)<=Za)
theorem qh0(l:List ak)(r:Int)(ae:P×List (Nat×En)->Prop):(∃(au:List ak),rn l au/\Zx/\Pu au/\ ∀(o:List aw) (t:Tl) (p:List Pl) (x:List It),o=JX au->t=vv o (aC au)->p=Kk (aC au) t->x=qaK (aC au) t-> ∃(eX:List ak) (bY:Int),tc l r=tc eX bY/\Zx/\jP eX/\ ∀(aP:List ak),aP=rp (aC eX) bY->bif ZbU aP then∃(Bf:List aw) (m:List ak) (i:Int),S.mk 44 [kY,(6,lN o),(7,mZ aP),(8,P.d (D.int .i64 (gX aP-(1:Int))))] (ZbS aP)=S.mk 44 (kY::(6,lN Bf)::(7,mZ m)::Ka i) (ZbS m)/\(i=gX m-(1:Int)/\iR m/\mR Bf)/\(∀(x:aw),cq Bf (List.reverse m)=some x->ZbM ae x)/\(cq Bf (List.reverse m)=none->ZbN ae) else False)=(aJ [(32,zM),(41,hRo)] [(4,ah (aL 24 4) qe7)] 24 [bC l,iD r] []) ae:=by kernel_rfl
abbrev re(z:Bool)(o:List aw)(r m:List ak)(i:Int):S:=⟨70,[(4,.ref 0 0 0),(6,.sl 1 0 r.length),(7,gh o),(8,.sl 2 0 m.length),(9,iD i)],[(0,⟨0,none,rj (0,0)⟩),(1,⟨0,none,kV z r⟩),(2,⟨0,none,kV false m⟩)]⟩
def ZbX(ae:PX×S->Prop):Prop:=ae (PX.exit 0,S.mk 70 [kY] Ot)
def ZbV(m:List ak):Nat×P:=(8,P.sl 2 0 (dA m))
def ZbW(i:Int)(ae:PX×S->Prop)(r:List ak)(o:List aw)(m:List ak):Prop:=bif Zb i then ae (PX.normal,S.mk 70 (kY::(6,mZ r)::(7,lN o)::ZbV m::Tt i) [qu,(1,En.mk 0 none (Obj.arr (34:TypeId) true (cr r))),(2,kz m)]) else False
theorem qh1(o:List aw)(r m:List ak)(i:Int)(ae:PX×S->Prop):(bif Z2 i then bif ki i m then bif iA i m then bif cK m i then bif !Ic m i then∃(l:List ak),ZbP r l/\Zx/\iR l/\ ∀(aP:List Hd),aP=List.map fa l->bif ki i m then bif iA i m then bif cK m i then∃(l:List Hd) (x:aw),P.d (D.sl 4 (D5 aP))::D2 m i=P.d (D.sl 4 (List.map bI l))::mP x/\Zx/\mQ l/\ ∀(e:Int) (bY:aw) (ev:Bool),gw l x=(e,bY,ev)->bif e==(0:Int) then bif ju ev then bif ki i m then bif iA i m then bif cK m i then∃(l:List aw) (x:aw),lN o::D2 m i=lN l::mP x/\Zx/\mR l/\ ∀(b:Bool),Ib b l x->bif b then bif ki i m then bif iA i m then bif cK m i then ae (PX.ret,S.mk 70 (kY::ZN) [OP m i]) else False else False else False else ZbW i ae r o m else False else False else False else ZbW i ae r o m else ZbW i ae r o m else False else False else False else ZbX ae else False else False else False else ZbX ae)=(aD [(44,Oo),(43,hRr),(42,Om)] [] 25 5 (re false o r m i)) ae:=by kernel_rfl
theorem qh2(o:List aw)(r m:List ak)(i:Int)(ae:PX×S->Prop):(bif Z2 i then bif ki i m then bif iA i m then bif cK m i then bif !Ic m i then∃(l:List ak),ZbP r l/\Zx/\iR l/\ ∀(aP:List Hd),aP=List.map fa l->bif ki i m then bif iA i m then bif cK m i then∃(l:List Hd) (x:aw),P.d (D.sl 4 (D5 aP))::D2 m i=P.d (D.sl 4 (List.map bI l))::mP x/\Zx/\mQ l/\ ∀(e:Int) (bY:aw) (ev:Bool),gw l x=(e,bY,ev)->bif e==(0:Int) then bif ju ev then bif ki i m then bif iA i m then bif cK m i then∃(l:List aw) (x:aw),lN o::D2 m i=lN l::mP x/\Zx/\mR l/\ ∀(b:Bool),Ib b l x->bif b then bif ki i m then bif iA i m then bif cK m i then ae (PX.ret,S.mk 70 (kY::ZN) [OP m i]) else False else False else False else ZbW i ae r o m else False else False else False else ZbW i ae r o m else ZbW i ae r o m else False else False else False else ZbX ae else False else False else False else ZbX ae)=(aD [(44,Oo),(43,hRr),(42,Om)] [] 25 5 (re true o r m i)) ae:=by kernel_rfl
def gRe:S->K (PX×S):=λs ae=> ∃o r m i,s=re false o r m i/\(i=(m.length:Int)-1/\m.length<=1000000/\o.length<=1000000/\r.length<=1000000)/\(∀x,bs (r.map fa) o m.reverse=some x->ae (.ret,⟨70,[(4,.ref 0 0 0),(5,iD 0)],[(0,⟨0,none,rj x⟩)]⟩))/\(bs (r.map fa) o m.reverse=none->ae (.exit 0,⟨70,[(4,.ref 0 0 0)],[(0,⟨0,none,rj (0,0)⟩)]⟩))
theorem qh3(l:List ak)(r:Int)(ae:P×List (Nat×En)->Prop):(∃(au:List ak),rn l au/\Zx/\jP au/\ ∀(m:List ak),m=aC au-> ∃(eX:List ak),rn l eX/\Zx/\Pu eX/\ ∀(o:List aw) (t:Tl) (p:List Pl) (x:List It),o=JX eX->t=vv o (aC eX)->p=Kk (aC eX) t->x=qaK (aC eX) t-> ∃(kM:List ak) (bY:Int),tc l r=tc kM bY/\Zx/\jP kM/\ ∀(aP:List ak),aP=rp (aC kM) bY->bif ZbU aP then∃(Bf:List aw) (r:List ak) (bO:List ak) (i:Int),S.mk 70 [kY,(6,mZ m),(7,lN o),ZbV aP,(9,P.d (D.int .i64 (gX aP-(1:Int))))] [qu,sP m,(2,kz aP)]=S.mk 70 [kY,(6,mZ r),(7,lN Bf),ZbV bO,H2 i] [qu,sP r,(2,kz bO)]/\(i=gX bO-(1:Int)/\iR bO/\mR Bf/\iR r)/\(∀(x:aw),bs (List.map fa r) Bf (List.reverse bO)=some x->ZbM ae x)/\(bs (List.map fa r) Bf (List.reverse bO)=none->ZbN ae) else False)=(aJ [(40,nE),(32,zM),(41,hRo)] [(5,ah (aL 25 5) gRe)] 25 [bC l,iD r] []) ae:=by kernel_rfl
def Hs(f:D->Option D)(o:List aw):Prop:= ∀s:aw,f (bh s)=if s∈o then some (.agg []) else none
abbrev vwG(g:List ak)(o:List aw)(f:D->Option D)(c:Int)(d:D->Option D)(n:Int)(na np nh nl:Nat)(A P H L:List D):List (Nat×En):=[(0,⟨0,some 0,.box 120 [.sl 1 0 g.length,.sl 2 0 o.length,.mp 3 0,.sl 5 0 na,.sl 6 0 np,.mp 4 0,.sl 7 0 nh,.sl 8 0 nl]⟩),(1,⟨0,some 1,kV false g⟩),(2,⟨0,some 2,mA false o⟩),(3,⟨0,some 3,onM f c⟩),(4,⟨0,some 6,qaw d n⟩),(5,⟨0,none,.arr 50 false A⟩),(6,⟨0,none,.arr 104 false P⟩),(7,⟨0,none,.arr 106 false H⟩),(8,⟨0,none,.arr 106 false L⟩)]
def qe8:bm:=λps R ae=> ∃x g o f c d n na np nh nl A P H L t N e,ps=[.ref 0 0 0,.d (aQ x)]/\R=qhM g o f c d n na np nh nl A P H L/\(Hs f o/\rX t na np nh nl A P H L/\mc d e/\vw N t/\N<=300000000/\x.ops.length<=200/\ ∀y∈x.ops,y.cg.length<=200)/\
 ∀d' n' pe pg ph bw A' P' H' L',rX (tlG o t x) pe pg ph bw A' P' H' L'->mc d' (x.ops.foldl rq e)->ae (.cT [],vwG g o f c d' n' pe pg ph bw A' P' H' L')
abbrev vwL(g:List ak)(o:List aw)(f:D->Option D)(c:Int)(d:D->Option D)(n:Int)(na np nh nl:Nat)(A P H L:List D):List (Nat×En):=[(0,⟨0,none,vwB g.length o.length na np nh nl⟩),(1,⟨0,none,kV false g⟩),(2,⟨0,none,mA false o⟩),(3,⟨0,none,onM f c⟩),(4,⟨0,none,.arr 50 false A⟩),(5,⟨0,none,.arr 104 false P⟩),(6,⟨0,none,qaw d n⟩),(7,⟨0,none,.arr 106 false H⟩),(8,⟨0,none,.arr 106 false L⟩)]
abbrev noD:D->Option D:=λ_=>none
abbrev vw0(g:List ak)(o:List aw)(f:D->Option D)(c:Int):List (Nat×En):=vwL g o f c noD 0 0 0 0 0 [] [] [] []
abbrev vo5(l g:List ak)(h:List Hd)(f:D->Option D)(c:Int)(i:Int):S:=⟨98,[(3,.ref 0 0 0),(4,.mp 9 0),(5,.sl 10 0 h.length),(6,.sl 11 0 h.length),(20,bC l),(21,iD ((l.map aQ).length:Int)),(22,iD i)],vw0 g [] noD 0++[(9,⟨0,none,mpS f c⟩),(10,⟨0,none,mA false (h.map (·.2))⟩),(11,⟨0,none,mA false (h.map (·.1))⟩)]⟩
abbrev qh4(g:List ak)(h:List Hd):S:=⟨98,[(3,.ref 0 0 0),(5,.sl 9 0 h.length),(6,.sl 10 0 h.length)],vw0 g [] noD 0++[(9,⟨0,none,mA false (h.map (·.2))⟩),(10,⟨0,none,mA false (h.map (·.1))⟩)]⟩
def UN(h:List Hd):En:=En.mk 0 none (Obj.arr (30:TypeId) false (oJ h))
def UO(h:List Hd):En:=En.mk 0 none (Obj.arr (30:TypeId) false (qQ h))
def Zch(h:List Hd)(l:List ak)(i:Int):En:=En.mk 0 none (Obj.arr (30:TypeId) false (List.take (fg h) (oJ h)++[sI l i]))
def Zcg(h:List Hd)(l:List ak)(i:Int):En:=En.mk 0 none (Obj.arr (30:TypeId) false (List.take (fg h) (qQ h)++[D.agg (Wb l i)]))
def Zc2:List P:=[Cn,P.sl 4 0 0,P.sl 5 0 0,P.mp 6 0,P.sl 7 0 0,P.sl 8 0 0]
def Zc3:List P:=P.sl 2 0 0::Zc2
def Zc0(l:List ak)(i:Int):List (Nat×P):=[(20,cS l),(21,D0 l),(22,P.d (Zn i))]
def ZbZ:Nat×P:=(4,P.mp 9 0)
def Zcf(h:List Hd)(l:List ak)(i:Int):Nat:=fg h+List.length [D.agg (Wb l i)]
def Zce(h:List Hd)(l:List ak)(i:Int):Nat:=fg h+List.length [sI l i]
def Zcd(h:List Hd):List (Nat×En):=[(10,UO h),(11,UN h)]
def UP:Nat×En:=(8,H8)
def UQ:Nat×En:=(7,H8)
def UR:Nat×En:=(6,En.mk 0 none (Obj.map 50 (λ(_:D)=>none) (0:Int) false))
def US:Nat×En:=(5,An)
def UT:Nat×En:=(4,Ma)
def Zc5:Nat×En:=(3,NY)
def Zc4(g:List ak):Nat×En:=(0,En.mk 0 none (Obj.box (120:TypeId) (mZ g::Zc3)))
def Zc1(h:List Hd)(l:List ak)(i:Int):List (Nat×P):=cN::ZbZ::(5,P.sl 10 0 (fg h))::(6,P.sl 11 0 (fg h))::Zc0 l i
theorem qb6(l g:List ak)(h:List Hd)(f:D->Option D)(c:Int)(i:Int)(ae:PX×S->Prop):(bif qP i l then bif kL i l then bif cK l i then∃(aT:ak),Yw l i aT/\Zx/\Pe aT/\ ∀(e:Int),Yv e aT->bif e !=(0:Int) then bif Zj i then ae (PX.normal,S.mk 98 (Zc1 h l i) (Zc4 g::sP g::Bc::Zc5::UT::US::UR::UQ::UP::(9,A5 f c)::Zcd h)) else False else bif cx PR (3:TypeId) (cL (f (sI l i)) Z7) then bif Z4S f l i then bif cx PR (3:TypeId) (Z4T l i f) then bif decide (D.aj (Z4T l i f)>(1:Int)) then bif Zj i then ae (PX.normal,S.mk 98 (Zc1 h l i) (Zc4 g::sP g::Bc::Zc5::UT::US::UR::UQ::UP::(9,Z4Y l i f c)::Zcd h)) else False else bif Pm g l i then bif Nat.ble (fg h) (List.length (oJ h))&&aO (Zce h l i) 16 then bif Nat.ble (fg h) (List.length (qQ h))&&aO (Zcf h l i) 16 then bif Zj i then ae (PX.normal,S.mk 98 (cN::ZbZ::(5,P.sl 10 0 (Zcf h l i))::(6,P.sl 11 0 (Zce h l i))::Zc0 l i) [(0,En.mk 0 none (Obj.box (120:TypeId) (P.sl 1 0 (Cb g l i)::Zc3))),(1,Pk g l i),Bc,Zc5,UT,US,UR,UQ,UP,(9,Z4Y l i f c),(10,Zcg h l i),(11,Zch h l i)]) else False else False else False else False else False else False else False else False else False else ae (PX.exit 0,S.mk 98 [cN,(5,P.sl 9 0 (fg h)),(6,P.sl 10 0 (fg h))] [Zc4 g,sP g,Bc,Zc5,UT,US,UR,UQ,UP,(9,UO h),(10,UN h)]))=(fb [(51,GK)] [] [] 61 5 (vo5 l g h f c i)) ae:=by kernel_rfl
def qe9:S->K (PX×S):=λs ae=> ∃l,s=vo5 l [] [] noD 0 0/\jP l/\ ∀g h,g=aC l->h=g.map fa->ae (.exit 0,qh4 g h)
abbrev qfa(g:List ak)(o:List aw)(f:D->Option D)(c:Int)(i:Int):S:=⟨98,[(3,.ref 0 0 0),(71,.sl 2 0 o.length),(72,iD (o.length:Int)),(73,iD i)],vw0 g o f c⟩
def Zcj:List (Nat×En):=[UT,US,UR,UQ,UP]
def Zci(g:List ak)(o:List aw):Nat×En:=(0,En.mk 0 none (Obj.box (120:TypeId) (mZ g::Co o::Zc2)))
theorem UU(g:List ak)(o:List aw)(f:D->Option D)(c:Int)(i:Int)(ae:PX×S->Prop):(bif decide (i<(↑(dR o):Int)) then bif decide ((0:Int)<=i/\i<(↑(dR o):Int)) then bif LS i o then bif uD o i then bif Zj i then ae (PX.normal,S.mk 98 [cN,(71,Co o),(72,P.d (D.int .i64 (↑(dR o):Int))),(73,P.d (Zn i))] (Zci g o::sP g::(2,pd o)::(3,En.mk 0 none (Obj.map 30 (λ(k':D)=>bif D.oO (D.agg [D.int .i64 (EG o i),D.int .i64 (D.aj (D.ar (D.nth (dX o) (Zg i)) (0+1)))]) k' then some (D.agg []) else f k') (bif Option.isSome (f (D.agg (A4 o i))) then c else c+(1:Int)) false))::Zcj)) else False else False else False else False else ae (PX.exit 2,S.mk 98 HY (Zci g o::sP g::(2,pd o)::(3,A5 f c)::Zcj)))=(fb [] [] [] 61 15 (qfa g o f c i)) ae:=by kernel_rfl
def UW:S->K (PX×S):=λs ae=> ∃g o,s=qfa g o noD 0 0/\o.length<=1000000/\ ∀f c,Hs f o->ae (.exit 2,⟨98,[(3,.ref 0 0 0)],vw0 g o f c⟩)
abbrev qfb(g:List ak)(o:List aw)(f:D->Option D)(c:Int)(d:D->Option D)(n:Int)(na np nh nl:Nat)(A P H L:List D)(i:Int):S:=⟨98,[(3,.ref 0 0 0),(87,.sl 1 0 g.length),(88,iD (g.length:Int)),(89,iD i)],vwL g o f c d n na np nh nl A P H L⟩
def Zcl(aT:List ak)(aP:List aw)(pe:Nat)(pg:Nat)(ph:Nat)(bw:Nat)(dS:D->Option D)(ec:Int)(A':List D)(P':List D)(d':D->Option D)(n':Int)(H':List D)(L':List D):List (Nat×En):=(0,En.mk 0 none (Obj.box (120:TypeId) (mZ aT::Co aP::Cn::P.sl 4 0 pe::P.sl 5 0 pg::Ut ph bw)))::sP aT::(2,pd aP)::(3,A5 dS ec)::eZ A'::eY P'::(6,En.mk 0 none (Obj.map 50 d' n' false))::Zaa H' L'
def Zck(g:List ak)(o:List aw)(na:Nat)(np:Nat)(nh:Nat)(nl:Nat)(f:D->Option D)(c:Int)(A:List D)(P:List D)(d:D->Option D)(n:Int)(H:List D)(L:List D):List (Nat×En):=[fQ g o na np nh nl,dV g,dU o,dT f c,(4,En.mk 0 (some 4) (Obj.arr (50:TypeId) false A)),(5,En.mk 0 (some 5) (Obj.arr (104:TypeId) false P)),fc d n,(7,En.mk 0 (some 7) (Obj.arr (106:TypeId) false H)),(8,En.mk 0 (some 8) (Obj.arr (106:TypeId) false L))]
theorem UX(g:List ak)(o:List aw)(f:D->Option D)(c:Int)(d:D->Option D)(n:Int)(na np nh nl:Nat)(A P H L:List D)(i:Int)(ae:PX×S->Prop):(bif xx i g then bif ki i g then bif iA i g then bif cK g i then∃(x:ak) (aT:List ak) (aP:List aw) (dS:D->Option D) (ec:Int) (eR:D->Option D) (cz:Int) (bn:Nat) (bp:Nat) (bq:Nat) (aW:Nat) (dv:List D) (dw:List D) (dx:List D) (cu:List D) (t:Tl) (N:Nat) (e:av->Option Bool),[bT,Pi.P.d (D.agg (wB g i))]=bT::EI x/\Zck g o na np nh nl f c A P d n H L=Zck aT aP bn bp bq aW dS ec dv dw eR cz dx cu/\(Hs dS aP/\rX t bn bp bq aW dv dw dx cu/\mc eR e/\vw N t/\N<=300000000/\Z4f x/\ ∀(y:aX),y∈ak.ops x->List.length (aX.cg y)<=200)/\ ∀(d':D->Option D) (n':Int) (pe pg ph bw:Nat) (A' P' H' L':List D),rX (tlG aP t x) pe pg ph bw A' P' H' L'->mc d' (List.foldl rq e (ak.ops x))->bif Zj i then ae (PX.normal,S.mk 98 [cN,(87,mZ g),(88,Cl g),(89,Pi.P.d (Zn i))] (Zcl aT aP pe pg ph bw dS ec A' P' d' n' H' L')) else False else False else False else False else ae (PX.exit 4,S.mk 98 HY (Zcl g o na np nh nl f c A P d n H L)))=(fb [] [(95,qe8)] [] 61 20 (qfb g o f c d n na np nh nl A P H L i)) ae:=by kernel_rfl
def Em(g:List ak):av->Option Bool:=(g.flatMap (·.ops)).foldl rq (λ_=>none)
def UY:S->K (PX×S):=λs ae=> ∃g o f c,s=qfb g o f c noD 0 0 0 0 0 [] [] [] [] 0/\(Hs f o/\g.length<=1000000/\ ∀x∈g,cE x=true)/\ ∀d n na np nh nl A P H L,rX (vv o g) na np nh nl A P H L->mc d (Em g)->ae (.exit 4,⟨98,[(3,.ref 0 0 0)],vwL g o f c d n na np nh nl A P H L⟩)
def Zco(aT:List ak)(aP:List aw)(f:D->Option D)(c:Int):S:=S.mk 98 [cN,(87,mZ aT),(88,Cl aT),(89,P.d Z7)] (Zci aT aP::sP aT::(2,pd aP)::(3,A5 f c)::Zcj)
def Zcn(o:List aw)(g:List ak):S:=S.mk 98 [cN,(71,Co o),(72,P.d (D.int .i64 (↑(dR o):Int))),(73,P.d Z7)] (Zci g o::sP g::(2,pd o)::Zc5::Zcj)
def Zcm(l:List ak):S:=S.mk 98 [cN,ZbZ,(5,P.sl 10 0 0),(6,P.sl 11 0 0),(20,cS l),(21,D0 l),(22,P.d Z7)] [(0,En.mk 0 none (Obj.box (120:TypeId) (uI::Zc3))),(1,LI),Bc,Zc5,UT,US,UR,UQ,UP,(9,NY),(10,w8),(11,w8)]
theorem qjY(l:List ak)(ae:P×List (Nat×En)->Prop):(∃(au:List ak),Zcm l=Zcm au/\jP au/\ ∀(g:List ak) (h:List Hd),g=aC au->h=List.map fa g-> ∃(l:List Hd),[P.d (D.sl 2 (List.take (fg h) (oJ h))),P.d (D.sl 2 (List.take (fg h) (qQ h)))]=Z6h l/\Zx/\mQ l/\ ∀(o:List aw),o=Yq l-> ∃(aT:List ak) (aP:List aw),Zcn o g=Zcn aP aT/\mR aP/\ ∀(f:D->Option D) (c:Int),Hs f aP-> ∃(g:List ak) (o:List aw) (dS:D->Option D) (ec:Int),Zco aT aP f c=Zco g o dS ec/\(Hs dS o/\iR g/\ZaK g)/\ ∀(d:D->Option D) (n:Int) (na np nh nl:Nat) (A P H L:List D),rX (vv o g) na np nh nl A P H L->mc d (Em g)->ae (bT,Zcl g o na np nh nl dS ec A P d n H L))=(sH [] [(94,qdK)] [(5,ah (aL 61 5) qe9),(15,ah (aL 61 15) UW),(20,ah (aL 61 20) UY)] 61 [bC l] []) ae:=by kernel_rfl
def qfc:bm:=λps R ae=> ∃l,ps=[bC l]/\R=[]/\jP l/\ ∀g o f c d n na np nh nl A P H L,g=aC l->o=JX l->Hs f o->rX (vv o g) na np nh nl A P H L->mc d (Em g)->ae (.ref 0 0 0,vwL g o f c d n na np nh nl A P H L)
theorem qh5(l:List ak)(ae:P×List (Nat×En)->Prop):(∃(au:List ak),rn l au/\Zx/\jP au/\ ∀(g:List ak) (o:List aw) (f:D->Option D) (_:Int) (d:D->Option D) (_:Int) (na np nh nl:Nat) (A P H L:List D),g=aC au->o=JX au->Hs f o->rX (vv o g) na np nh nl A P H L->mc d (Em g)->ae (Al o,N2 o))=(sH [] [(61,qfc)] [] 35 [bC l] []) ae:=by kernel_rfl
theorem Eo: ∀{l:List ak},(∀g∈l,cE g=true)->dq l<=200*l.length
 | [],_=>by simp[lP]
 |g::r,h=>by have h1:=Eo (l:=r) λx hx=>h x (.tail _ hx);have h2:=ui (h g (.head _));rw[jh,zap];omega
theorem Hs.none:Hs noD []:=λs=>by rw[zal (by simp)]
theorem Hs.go{f:D->Option D}{o:List aw}{i:Nat}(hi:i<o.length)(h:Hs f (o.take i)):Hs (λk'=>bif D.oO (bh o[i]) k' then some (.agg []) else f k') (o.take (i+1)):=λs=>by
 show(bif D.oO (bh o[i]) (bh s) then some (D.agg []) else f (bh s))=_;rw[Ue,h s,zag hi];by_cases hs:o[i]=s
 ·subst hs;rw[show(o[i]==o[i])=true by simp];show some (D.agg [])=_;rw[zao (zbd _ (.head _))]
 rw[show(o[i]==s)=false by simpa using hs];show(if s∈o.take i then some (D.agg []) else Option.none)=_;by_cases hm:s∈o.take i
 ·rw[zao hm,zao (zbA _ hm)]
 rw[zal hm,zal (λhh=>(zaI.1 hh).elim hm λh2=>hs (zbh.1 h2).symm)]
theorem OQ{g:List ak}{i:Nat}(hi:i<g.length):Em (g.take (i+1))=g[i].ops.foldl rq (Em (g.take i)):=by unfold Em;rw[zag hi,zbG,za3];simp
theorem isU:cx PR 167 (.agg [])=true:=by kernel_rfl
section
variable{X:XF}{w0:World}(hX:dC PR w0 X.cf)
include hX
theorem qh6:ND w0 95 qe8:=ND.mk hX (H:=[]) (HN:=[]) (hk:=[(3,ah (aL 95 3) qeL)]) EJ (by kernel_rfl) (by kernel_rfl) .nil .nil (.loop (by decide) (qhN hX).T .nil) (by
 intro ps R ae hh;obtain⟨x,g,o,f,c,d,n,na,np,nh,nl,A,P,H,L,t,N,e,g1,g2,hc,hp⟩:=hh
 (rw[g1,g2,<-qjM];delta bU Zaa ES ET Cn dR Co dA mZ Z4f fI iK po kc ke oD q9 kg il kh iz lO fc eY eZ dT dX dU cr dV Ut fQ Z7 wX iI iJ Zab iB bT e9)
 have hf:f (D.agg [D.int .i64 x.s.1,D.int .i64 x.s.2])=if x.s∈o then some (.agg []) else none:=hc.1 x.s
 rw[hf];by_cases hm:x.s∈o
 ·rw[zao hm];exact aq isU ⟨x,g,o,f,c,d,n,na,np,nh,nl,A,P,H,L,true,t,N,e,rfl,hc.2,λd' n' pe pg ph bw A' P' H' L' g1 g2=>hp d' n' pe pg ph bw A' P' H' L' (by unfold tlG;rw[zaP hm];exact g1) g2⟩
 rw[zal hm];exact aq isU ⟨x,g,o,f,c,d,n,na,np,nh,nl,A,P,H,L,false,t,N,e,rfl,hc.2,λd' n' pe pg ph bw A' P' H' L' g1 g2=>hp d' n' pe pg ph bw A' P' H' L' (by unfold tlG;rw[zaN hm];exact g1) g2⟩)
theorem qh7:LN w0 61 5 (ah (aL 61 5) qe9):=LN.idx hX (H:=[(51,GK)]) (HN:=[]) (hk:=[]) EJ (by kernel_rfl) (by kernel_rfl) (by kernel_rfl) (.cons qby .nil) .nil .nil
 (A:=List ak) (B:=List ak×List aw×Int) (λl b i=>vo5 l b.1 (b.1.map fa) (cM b.2.1) b.2.2 i) (λl=>l.length) (λl i b=>jP l/\b.1=aC (l.take i)/\wZ b.2.1 b.1/\b.2.1.length<=i)
 (λl x=>x=(.exit 0,qh4 (aC l) ((aC l).map fa)))
 (by
  rintro l ⟨o,U,c⟩ i ae h0 bR aY ⟨hs,rfl,hU,NZ⟩ hn ho;dsimp only at*
  (rw[<-qb6];delta oJ UN qQ UO Zg cr fJ my nO sI fg Zch Wb Zcg xw wB dA Pk Cn Zc2 Zc3 Cb Zn eD D0 cS Zc0 ZbZ bT cN Zcf Zce Pm Z7 Z4X Z4Y Z4T Za Z9 Z4S Zcd A5 H8 UP UQ UR An US Ma UT NY Zc5 w8 Bc kz sP mZ Zc4 Zc1 Zj Yv Zx kc ke kg il kh iz oE EI Yw cK kL qP)
  have e1:D.nth (l.map aQ) i.toNat=aQ l[i.toNat]:=ay _ _ _ aY;rw[e1];have hsg:=hs.2 _ (zas aY);have rT:=qm aY;have lX:=cF (l.take i.toNat);rw[zay] at lX;generalize l[i.toNat]=g at rT hsg;have q5:=hs.1;have t1:D.agg [D.int .i64 (D.aj (D.ar (aQ g) 0)),D.int .i64 (D.aj (D.ar (aQ g) 1))]=bh g.s:=rfl;have v1: ∀n:Int,D.aj (iE n)=n:=λ_=>rfl;have g0:cL (cM U (bh g.s)) (.int .i64 0)=iE (U.count g.s:Int):=ql U g.s;have HM:=zbW (a:=g.s) (l:=U);have u2:=λz=>DZ U g.s z;have u3:=λz=>DY U g.s z;have g1:cL (cM (g.s::U) (bh g.s)) (.int .i64 0)= .int .i64 ((U.count g.s:Int)+1):=by have:=ql (g.s::U) g.s;rw[zcg] at this;exact this
  have AP:(U.count g.s:Int)=0↔ ¬g.s∈U:=by rw[<-zcU];omega
  have hcb:0<=(U.count g.s:Int)/\(U.count g.s:Int)<=1000000:=by have:=hs.1;omega
  generalize (U.count g.s:Int)=cn at g0 u2 u3 g1 AP hcb;rw[t1,g0];simp only[v1];have gq:i<((l.map aQ).length:Int):=by rw[zaa];exact bR
  refine bz gq (ao ⟨h0,gq⟩ (aq (cY _) ⟨g,rfl,rfl,hsg,λe he=>y7 (λh1=>ao (by omega) (hn (aC (l.take i.toNat),U,c) ⟨hs,?_,hU,zcW NZ⟩)) λh1=> ?_⟩))
  ·rw[rT,D3];cases hg:cE g with
   |false=>rfl
   |true=>rw[hg] at he;exact absurd he h1
  have hg:cE g=true:=by
   cases hg:cE g with
   |true=>rfl
   |false=>rw[hg,zal (by simp)] at he;omega
  refine aq (A7 _) (ao (by omega) ?_);rw[u2,g1,u3];refine aq (A7 _) ?_;have v2: ∀n:Int,D.aj (D.int .i64 n)=n:=λ_=>rfl;simp only[v2];refine b7 (λh2=>ao (by omega) (hn (aC (l.take i.toNat),g.s::U,_) ⟨hs,?_,hU.had ?_,zbZ NZ⟩)) λh2=> ?_
  ·have hx:g.s∈U:=zaM λh=>by have:=AP.2 h;omega
   rw[rT,zu ((hU g.s).1 hx)]
  ·exact zaM λh=>by have:=AP.2 h;omega
  have hx: ¬g.s∈U:=AP.1 (by omega);have AV:((aC (l.take i.toNat)).any λx=>x.s==g.s)=false:=by rw[<-zaX,<-hU g.s];exact hx
  have hy:=λc':Int=>hn (aC (l.take i.toNat)++[g],g.s::U,c') ⟨hs,by rw[rT,zw hg AV],hU.new,zbZ NZ⟩;generalize aC (l.take i.toNat)=r at*
  have p0:List.take r.length (r.map aQ)++[aQ g]=(r++[g]).map aQ:=cw aQ r g;have p1:List.take (r.map fa).length (((r.map fa).map λx=>x.1).map bh)++[bh g.s]=(((r++[g]).map fa).map λx=>x.1).map bh:=by rw[zah (by simp)];simp[fa]
  have p2:List.take (r.map fa).length (((r.map fa).map λx=>x.2).map bh)++[bh g.bN]=(((r++[g]).map fa).map λx=>x.2).map bh:=by rw[zah (by simp)];simp[fa]
  have q0:(r++[g]).length=r.length+1:=by simp
  have q1:((r++[g]).map fa).length=(r.map fa).length+1:=by simp
  simp only[vo5,vw0,vwL,vwB,kV,mA] at hy;rw[<-p0,<-p1,<-p2,q0,q1] at hy;have hrl:(r.map fa).length<=1000000:=by rw[zaa];omega
  have rm: ∀{α:Type} (f:α->D) (m:List α) (z:D) (b:Nat),m.length<=1000000->b<=100->(Nat.ble m.length (m.map f).length&&aO (m.length+List.length [z]) b)=true:=λf m z b hm hb=>eA rfl (by rw[zaa]) (by omega) hb;have rm1:(Nat.ble (r.map fa).length (((r.map fa).map λx=>x.1).map bh).length&&aO ((r.map fa).length+List.length [bh g.s]) 16)=true:=eA rfl (by simp) (by omega) (by decide);have rm2:(Nat.ble (r.map fa).length (((r.map fa).map λx=>x.2).map bh).length&&aO ((r.map fa).length+List.length [bh g.bN]) 16)=true:=eA rfl (by simp) (by omega) (by decide);exact aq (rm aQ r _ 88 (by omega) (by decide)) (aq rm1 (aq rm2 (ao (by omega) (hy _)))))
 (by
  rintro l ⟨o,U,c⟩ i ae hi ⟨hs,rfl,hU,NZ⟩ ho;dsimp only at*
  (rw[<-qb6];delta oJ UN qQ UO Zg cr fJ my nO sI fg Zch Wb Zcg xw wB dA Pk Cn Zc2 Zc3 Cb Zn eD D0 cS Zc0 ZbZ bT cN Zcf Zce Pm Z7 Z4X Z4Y Z4T Za Z9 Z4S Zcd A5 H8 UP UQ UR An US Ma UT NY Zc5 w8 Bc kz sP mZ Zc4 Zc1 Zj Yv Zx kc ke kg il kh iz oE EI Yw cK kL qP)
  refine kA (by rw[zaa];omega) (ho _ (λh=>by cases h) ?_);rw[zaj];rfl)
 (by rintro s ae ⟨l,rfl,hs,hp⟩;refine⟨l,([],[],0),by rw[DX];rfl,⟨hs,rfl,wZ.nil,by simp⟩,?_⟩;rintro x rfl;exact hp _ _ rfl rfl)
theorem qfd:LN w0 61 15 (ah (aL 61 15) UW):=LN.idx hX (H:=[]) (HN:=[]) (hk:=[]) EJ (by kernel_rfl) (by kernel_rfl) (by kernel_rfl) .nil .nil .nil
 (A:=List ak×List aw) (B:=(D->Option D)×Int) (λa b i=>qfa a.1 a.2 b.1 b.2 i) (λa=>a.2.length) (λa i b=>a.2.length<=1000000/\Hs b.1 (a.2.take i))
 (λa x=> ∃f c,Hs f a.2/\x=(.exit 2,⟨98,[(3,.ref 0 0 0)],vw0 a.1 a.2 f c⟩))
 (by
  rintro⟨g,o⟩ ⟨f,c⟩ i ae h0 bR aY ⟨hm,hO⟩ hn ho;dsimp only at*
  (rw[<-UU];delta A5 bT cN HY H8 UP UQ UR An US Ma UT Zcj Zg dX GH EG A4 pd cr kz sP Cn Zc2 dR Co dA mZ Zci Zn Za Z9 Zj uD LS)
  have e1:D.nth (o.map bh) i.toNat=bh o[i.toNat]:=ay _ _ _ aY;have mW:=hO.go aY;rw[e1];refine bz bR (ao ⟨h0,bR⟩ (ao (by simpa using aY) (aq (jI _) (ao (by omega) (hn (_,_) ⟨hm,mW⟩))))))
 (by
  rintro⟨g,o⟩ ⟨f,c⟩ i ae hi ⟨hm,hO⟩ ho;dsimp only at*
  (rw[<-UU];delta A5 bT cN HY H8 UP UQ UR An US Ma UT Zcj Zg dX GH EG A4 pd cr kz sP Cn Zc2 dR Co dA mZ Zci Zn Za Z9 Zj uD LS)
  rw[zaj] at hO;exact kA (by omega) (ho _ (λh=>by cases h) ⟨f,c,hO,rfl⟩))
 (by rintro s ae ⟨g,o,rfl,hm,hp⟩;refine⟨(g,o),(noD,0),rfl,⟨hm,Hs.none⟩,?_⟩;rintro x ⟨f,c,h1,rfl⟩;exact hp f c h1)
theorem qfe:LN w0 61 20 (ah (aL 61 20) UY):=LN.idx hX (H:=[]) (HN:=[(95,qe8)]) (hk:=[]) EJ (by kernel_rfl) (by kernel_rfl) (by kernel_rfl) .nil (.cons (qh6 hX) .nil) .nil
 (A:=List ak×List aw×(D->Option D)×Int) (B:=GaB) (λa b i=>qfb a.1 a.2.1 a.2.2.1 a.2.2.2 b.1 b.2.1 b.2.2.1 b.2.2.2.1 b.2.2.2.2.1 b.2.2.2.2.2.1 b.2.2.2.2.2.2.1 b.2.2.2.2.2.2.2.1 b.2.2.2.2.2.2.2.2.1 b.2.2.2.2.2.2.2.2.2 i) (λa=>a.1.length)
 (λa i b=>(Hs a.2.2.1 a.2.1/\a.1.length<=1000000/\ ∀x∈a.1,cE x=true)/\rX (vv a.2.1 (a.1.take i)) b.2.2.1 b.2.2.2.1 b.2.2.2.2.1 b.2.2.2.2.2.1 b.2.2.2.2.2.2.1 b.2.2.2.2.2.2.2.1 b.2.2.2.2.2.2.2.2.1 b.2.2.2.2.2.2.2.2.2/\mc b.1 (Em (a.1.take i)))
 (λa x=> ∃d n na np nh nl A P H L,rX (vv a.2.1 a.1) na np nh nl A P H L/\mc d (Em a.1)/\x=(.exit 4,⟨98,[(3,.ref 0 0 0)],vwL a.1 a.2.1 a.2.2.1 a.2.2.2 d n na np nh nl A P H L⟩))
 (by
  rintro⟨g,o,f,c⟩ ⟨d,n,na,np,nh,nl,A,P,H,L⟩ i ae h0 bR aY ⟨hc,hR,hD⟩ hn ho;dsimp only at*
  (rw[<-UX];delta bT cN HY bU Zaa ES eY ET eZ A5 dX pd cr kz sP Ut Cn dR Co dA mZ Zcl Zn gX Cl Za Z9 Zj Z4f fc dT dU dV fQ Zck kc ke kg il kh iz oE EI Zg fJ xw my nO wB cK eD iA ki xx)
  have hB:=Cg (on:=o) hc.2.2 i.toNat (by omega);have hN:dq (g.take i.toNat)<=300000000:=by have h1:=qR g i.toNat;have h2:=Eo hc.2.2;have h3:=hc.2.1;omega
  have e1:D.nth (g.map aQ) i.toNat=aQ g[i.toNat]:=ay _ _ _ aY;have oR:=hc.2.2 _ (zas aY);have jQ:=ug (on:=o) aY;have Oz:=OQ aY;rw[e1];generalize g[i.toNat]=x at oR jQ Oz⊢;refine bz bR (ao ⟨h0,bR⟩ (ao (by simpa using aY) (aq (cY _) ⟨x,g,o,f,c,d,n,na,np,nh,nl,A,P,H,L,_,_,_,rfl,rfl,⟨hc.1,hR,hD,hB,hN,ui oR,uh oR⟩,λd' n' pe pg ph bw A' P' H' L' g1 g2=>ao (by omega) (hn (d',n',pe,pg,ph,bw,A',P',H',L') ⟨hc,by rw[jQ];exact g1,by rw[Oz];exact g2⟩)⟩))))
 (by
  rintro⟨g,o,f,c⟩ ⟨d,n,na,np,nh,nl,A,P,H,L⟩ i ae hi ⟨hc,hR,hD⟩ ho;dsimp only at*
  (rw[<-UX];delta bT cN HY bU Zaa ES eY ET eZ A5 dX pd cr kz sP Ut Cn dR Co dA mZ Zcl Zn gX Cl Za Z9 Zj Z4f fc dT dU dV fQ Zck kc ke kg il kh iz oE EI Zg fJ xw my nO wB cK eD iA ki xx)
  rw[zaj] at hR hD;exact kA (by omega) (ho _ (λh=>by cases h) ⟨d,n,na,np,nh,nl,A,P,H,L,hR,hD,rfl⟩))
 (by rintro s ae ⟨g,o,f,c,rfl,hc,hp⟩;refine⟨(g,o,f,c),(noD,0,0,0,0,0,[],[],[],[]),rfl,⟨hc,⟨rfl,rfl,rfl,rfl,rfl,rfl,rfl,rfl⟩,λz=>rfl⟩,?_⟩;rintro x ⟨d,n,na,np,nh,nl,A,P,H,L,g1,g2,rfl⟩;exact hp d n na np nh nl A P H L g1 g2)
theorem qh8:ND w0 61 qfc:=ND.mk hX (H:=[]) (HN:=[(94,qdK)]) (hk:=[(5,ah (aL 61 5) qe9),(15,ah (aL 61 15) UW),(20,ah (aL 61 20) UY)]) EJ (by kernel_rfl) (by kernel_rfl) .nil (.cons (qjq hX) .nil) (.loop (by decide) (qh7 hX).T (.loop (by decide) (qfd hX).T (.loop (by decide) (qfe hX).T .nil))) (by
 intro ps R ae hh;obtain⟨l,rfl,rfl,hs,hp⟩:=hh
 (rw[<-qjY];delta bU Zaa ES eY ET eZ A5 dX pd cr kz sP Ut Cn dR Co dA mZ Zcl bT ZaK iR H8 UP UQ UR An US Ma UT Zcj Zc2 Zci Z7 gX Cl cN Zco mR NY Zc5 Zcn fg mQ Zx qQ oJ Z6h w8 Bc LI Zc3 uI eD D0 cS ZbZ Zcm)
 have hl:=hs.1;have h1:=qW l;have h2:=cF l;refine⟨l,rfl,hs,λg h hg hh=> ?_⟩;have tk1:List.take h.length ((h.map λx=>x.1).map bh)=(h.map λx=>x.1).map bh:=zah (by simp);have tk2:List.take h.length ((h.map λx=>x.2).map bh)=(h.map λx=>x.2).map bh:=zah (by simp);rw[tk1,tk2];refine⟨h,rfl,rfl,by rw[hh,zaa,hg];omega,λo ho=> ?_⟩;have gg:o=JX l:=by rw[ho,hh,hg];rfl
 exact⟨g,o,rfl,by rw[gg];omega,λf c hf=>⟨g,o,f,c,rfl,⟨hf,by rw[hg];omega,by rw[hg];exact sF⟩,λd n na np nh nl A P H L g1 g2=>hp g o f c d n na np nh nl A P H L hg gg hf g1 g2⟩⟩)
theorem qb7:ND w0 35 Kh:=ND.mk hX (H:=[]) (HN:=[(61,qfc)]) (hk:=[]) EJ (by kernel_rfl) (by kernel_rfl) .nil (.cons (qh8 hX) .nil) .nil (by
 intro ps R ae hh;obtain⟨l,rfl,rfl,hs,hp⟩:=hh
 (rw[<-qh5];delta dX pd N2 dR Al Zx cr cS rn)
 exact⟨l,rfl,rfl,hs,λg o f c d n na np nh nl A P H L _ ho _ _ _=>hp o ho⟩)
end
theorem Ht{m:List ak}{i:Nat}(h:i<m.length):(m.take (i+1)).reverse=m[i]::(m.take i).reverse:=by rw[zag h,zcO];rfl
theorem UZ{l:List ak}{t:Tl}(hc: ∀g∈l,cE g=true)(hn:(l.map (·.s)).Nodup):(Kk l t).length<=t.a.length:=
 zaG (Eh hc hn _) (zaG (Eg _) (xF _ _))
def Kl:bm:=λps R ae=> ∃l r,ps=[bC l,iD r]/\R=[]/\Pu l/\ ∀a,a=rS l r->ae (stO a,[])
def Km:bm:=λps R ae=> ∃l r,ps=[bC l,iD r]/\R=[]/\Pu l/\ ∀a,a=qk l r->ae (stO a,[])
section
variable{X:XF}
theorem qaL:LD X 32 7 (ah (aL 32 7) qe6):=LD.idx (H:=[(42,Hh)]) (hk:=[(11,ah (aL 32 11) UD)]) (by kernel_rfl) (by kernel_rfl) (.cons TM .nil) (.cons UI .nil)
 (A:=List ak×List aw) (B:=OfB) (λa b i=>of7 a.1 a.2 b.1 b.2.1 b.2.2.1 b.2.2.2.1 b.2.2.2.2.1 b.2.2.2.2.2.1 b.2.2.2.2.2.2.1 b.2.2.2.2.2.2.2 i) (λa=>a.1.length)
 (λa i b=>(a.1.length<=1000000/\a.2.length<=1000000/\ ∀g∈a.1,cE g=true)/\rX (vv a.2 (a.1.take i)) b.1 b.2.1 b.2.2.1 b.2.2.2.1 b.2.2.2.2.1 b.2.2.2.2.2.1 b.2.2.2.2.2.2.1 b.2.2.2.2.2.2.2)
 (λa x=> ∃na np nh nl A P H L,rX (vv a.2 a.1) na np nh nl A P H L/\x=(.exit 0,⟨140,[(0,.sl 0 0 a.1.length),(2,.ref 1 0 0),(3,.ref 7 0 0),(4,.sl 13 0 na),(5,.sl 14 0 np)],ofR a.1 a.2 nh nl A P H L⟩))
 (by
  rintro⟨m,o⟩ ⟨na,np,nh,nl,A,P,H,L⟩ i ae h0 bR aY ⟨hc,hR⟩ hn ho
  try dsimp only at*
  rw[<-qb4];have hB:=Cg (on:=o) hc.2.2 i.toNat (by omega);have hN:dq (m.take i.toNat)<=300000000:=by have h1:=qR m i.toNat;have h2:=Eo hc.2.2;have h3:=hc.1;omega
  have e1:D.nth (m.map aQ) i.toNat=aQ m[i.toNat]:=ay _ _ _ aY;have oR:=hc.2.2 _ (zas aY);have jQ:=ug (on:=o) aY;rw[e1];refine bz bR (ao ⟨h0,bR⟩ (ao (by rw[zaa];exact aY) (aq (cY _) ⟨o,m[i.toNat].s,rfl,rfl,hc.2.1,λb hb=>⟨m,o,na,np,nh,nl,A,P,H,L,i,b,_,_,aY,rfl,⟨hR,hB,hN,h0,ui oR,uh oR⟩,λpe pg ph bw A' P' H' L' g1=>ao (by omega) (hn (pe,pg,ph,bw,A',P',H',L') ⟨hc,by rw[jQ];unfold tlG;rw[<-hb];exact g1⟩)⟩⟩))))
 (by
  rintro⟨m,o⟩ ⟨na,np,nh,nl,A,P,H,L⟩ i ae hi ⟨hc,hR⟩ ho
  try dsimp only at*
  rw[<-qb4];rw[zaj] at hR;exact kA (by omega) (ho _ (λh=>by cases h) ⟨na,np,nh,nl,A,P,H,L,hR,rfl⟩))
 (by rintro s ae ⟨m,o,rfl,hc,hp⟩;refine⟨(m,o),(0,0,0,0,[],[],[],[]),rfl,⟨hc,⟨rfl,rfl,rfl,rfl,rfl,rfl,rfl,rfl⟩⟩,?_⟩;rintro x ⟨na,np,nh,nl,A,P,H,L,g1,rfl⟩;exact hp na np nh nl A P H L g1)
theorem Kn:FD X 32 zM:=FD.mk (H:=[(40,nE),(44,Oo),(53,qel),(55,qeW),(54,Uw),(57,TK),(56,Ee)]) (hk:=[(7,ah (aL 32 7) qe6)]) (by kernel_rfl) (.cons qn (.cons qbN (.cons qhr (.cons qhU (.cons qe1 (.cons qeg (.cons Tx .nil))))))) (.cons qaL .nil) (by
 intro ps R ae hh;obtain⟨l,rfl,rfl,hs,hp⟩:=hh
 (rw[<-qjW];delta dX dR UL gD iq UM Ci Bb ZaK dA iR km ZaL cr cS iG ZbO qp lZ ma mR An Ma Wd Uy H8 OC pd OD ZaZ ZaY OE OG OH OI w8 Bc OJ OL Z7 Ed H9 iQ Ia kW lW ZbQ fg mQ Z8H D5 ZbP Zx rn)
 have hl:=hs.1.1;have h1:=qW l;have h2:=cF l;have oR: ∀g∈aC l,cE g=true:=sF;have kS:=iu l;have Bd:dq (aC l)<=1000:=zaG (J0 l) hs.2;refine⟨l,rfl,rfl,hs.1,λm hm=> ?_⟩;have tm:List.take m.length (m.map aQ)=m.map aQ:=zah (by simp);rw[tm];refine⟨m,rfl,rfl,by rw[hm];omega,λh hh=> ?_⟩;have th:List.take h.length (h.map bI)=h.map bI:=zah (by simp);rw[th];refine⟨h,rfl,rfl,by rw[hh,zaa,hm];omega,λo ho=> ?_⟩;have gg:o=JX l:=by rw[ho,hh,hm];rfl
 refine⟨m,o,rfl,⟨by rw[hm];omega,by rw[gg];omega,by rw[hm];exact oR⟩,λna np nh nl A P H L hR=> ?_⟩;have hB:=Cg (on:=o) (l:=m) (by rw[hm];exact oR) m.length (zak _);rw[zaj,hm] at hB;have kN:=hB.mono Bd;rw[hm] at hR;obtain⟨t,ht⟩: ∃t,t=vv o (aC l):=⟨_,rfl⟩
 rw[<-ht] at hR kN;obtain⟨rfl,rfl,rfl,rfl,rfl,rfl,rfl,rfl⟩:=hR;have ta:List.take t.a.length (t.a.map bH)=t.a.map bH:=zah (by simp);have tp:List.take t.p.length (t.p.map bP)=t.p.map bP:=zah (by simp);have thh:List.take t.h.length (t.h.map jM)=t.h.map jM:=zah (by simp);have tg:List.take t.g.length (t.g.map jM)=t.g.map jM:=zah (by simp);have tn:List.take o.length (o.map bh)=o.map bh:=zah (by simp);have tk: ∀{α:Type} (f:α->D) (l:List α),List.take l.length (l.map f)=l.map f:=λf l=>zah (by simp);have b1:=kN.1;have b2:=kN.2.1;have b3:=kN.2.2.1;have b4:=kN.2.2.2;rw[ta,tp,thh,tg,tn,tm];refine⟨t.a,t.p,rfl,rfl,⟨by omega,b1.symm⟩,λq hq=> ?_⟩;rw[tk bP q];have hql:q.length<=t.a.length:=by rw[hq];exact zaG (Eg _) (xF _ _)
 refine⟨m,q,rfl,rfl,⟨by omega,by rw[hm];omega,by rw[hm];exact oR,by rw[hm];exact kS⟩,λp Qj=>⟨t.h,t.g,rfl,rfl,⟨by omega,by omega⟩,λv hv=> ?_⟩⟩;rw[tk bP p,tk bH v];have X9:p=Kk (aC l) t:=by rw[Qj,hq,hm];rfl
 have MF:p.length<=t.a.length:=by rw[X9];exact UZ oR kS
 have Qg:v.length<=t.h.length:=by rw[hv];exact L6 _ _
 refine⟨p,v,rfl,rfl,⟨by omega,by omega⟩,?_⟩;rw[tk fF];exact hp o t p (kj (pn p) v) gg ht X9 (by rw[X9,hv];rfl))
theorem qaM:LD X 24 4 (ah (aL 24 4) qe7):=LD.par (H:=[(42,Om)]) (hk:=[]) (by kernel_rfl) (by kernel_rfl) (.cons qbM .nil) .nil
 (A:=List aw×List ak) (B:=Int) (λa i=>ru a.1 a.2 i) (λa i=>(a.2.length<=1000000/\a.1.length<=1000000)/\ -1<=i/\i<a.2.length/\cq a.1 a.2.reverse=cq a.1 (a.2.take (i+1).toNat).reverse) (λ_ i=>(i+1).toNat)
 (λa x=>(∃s,cq a.1 a.2.reverse=some s/\x=(.ret,⟨44,[(4,.ref 0 0 0),(5,iD 0)],[(0,⟨0,none,rj s⟩)]⟩))\/(cq a.1 a.2.reverse=none/\x=(.exit 0,⟨44,[(4,.ref 0 0 0)],[(0,⟨0,none,rj (0,0)⟩)]⟩)))
 (by
  rintro⟨o,m⟩ i ⟨hm,h1,h2,hu⟩
  try dsimp only at*
  (rw[<-qjX];delta Z7 mr rb qu Ot cr kz sP ZbS Zs Z8i dA mZ dX lN bT kY Za Z9 Zb ZbT Zg fJ my nO OP ZN Ib dR mR Zx gV gW qe mP sI D2 Ic cK eD iA gX ki Z2)
  refine b7 (λhp=> ?_) λhp=> .inr ⟨?_,rfl⟩
  ·have aY:i.toNat<m.length:=by omega
   have e1:D.nth (m.map aQ) i.toNat=aQ m[i.toNat]:=ay _ _ _ aY;rw[show(i+1).toNat=i.toNat+1 by omega,Ht aY] at hu;have vz:i.toNat<(m.map aQ).length:=by rw[zaa];exact aY
   rw[e1];generalize m[i.toNat]=g at hu⊢;have kQ:=cY g;have key:cq o m.reverse=if g.bN=(0,0)/\g.s∈o then some g.s else cq o (m.take i.toNat).reverse:=hu
   have v:(D.aj (D.ar (aQ g) 4)==0&&(D.aj (D.ar (aQ g) 5)==0&&true))=(g.bN==(0,0)):=DM g.bN (0,0);rw[v];have nx: ¬(g.bN=(0,0)/\g.s∈o)->roundPost (i.toNat+1) (λk s=> ∃b',s=ru o m b'/\((m.length<=1000000/\o.length<=1000000)/\ -1<=b'/\b'<m.length/\cq o m.reverse=cq o (m.take (b'+1).toNat).reverse)/\k=(b'+1).toNat) (λx=>(∃s,cq o m.reverse=some s/\x=(.ret,⟨44,[(4,.ref 0 0 0),(5,iD 0)],[(0,⟨0,none,rj s⟩)]⟩))\/(cq o m.reverse=none/\x=(.exit 0,⟨44,[(4,.ref 0 0 0)],[(0,⟨0,none,rj (0,0)⟩)]⟩))) (.normal,ru o m (i-1)):=λbX=>
    ⟨i.toNat,by omega,i-1,rfl,⟨hm,by omega,by omega,by rw[key,zal bX,show(i-1+1).toNat=i.toNat by omega]⟩,by omega⟩
   rw[show(i+1).toNat=i.toNat+1 by omega];refine ao ⟨hp,h2⟩ (ao vz (aq kQ (az (λhz=>ao ⟨hp,h2⟩ (ao vz (aq kQ ⟨o,g.s,rfl,rfl,hm.2,λb hb=>az (λvp=>ao ⟨hp,h2⟩ (ao vz (aq kQ ?_))) λuq=>ao (by omega) (nx ?_)⟩))) λhz=>ao (by omega) (nx ?_))))
   ·have cm:g.s∈o:=by rw[hb,zai] at vp;exact vp
    exact .inl ⟨g.s,by rw[key,zao ⟨by simpa using hz,cm⟩],rfl⟩
   ·intro hh;rw[hb,zaE] at uq;exact uq hh.2
   intro hh;rw[hh.1] at hz;simp at hz
  rw[hu,show(i+1).toNat=0 by omega];rfl)
 (by
  rintro s ae ⟨o,m,i,rfl,⟨hi,hm,ho⟩,uC,O9⟩;refine⟨(o,m),i,rfl,⟨⟨hm,ho⟩,by omega,by show i<(m.length:Int);omega,?_⟩,?_⟩
  ·show cq o m.reverse=cq o (m.take (i+1).toNat).reverse;rw[zah (by omega)]
  rintro x (⟨s,h,rfl⟩| ⟨h,rfl⟩)
  ·exact uC s h
  exact O9 h)
theorem qff:LD X 25 5 (ah (aL 25 5) gRe):=LD.par (H:=[(44,Oo),(43,hRr),(42,Om)]) (hk:=[]) (by kernel_rfl) (by kernel_rfl) (.cons qbN (.cons qjE (.cons qbM .nil))) .nil
 (A:=List aw×List ak×List ak) (B:=Bool×Int) (λa b=>re b.1 a.1 a.2.1 a.2.2 b.2) (λa b=>(a.2.2.length<=1000000/\a.1.length<=1000000/\a.2.1.length<=1000000)/\ -1<=b.2/\b.2<a.2.2.length/\bs (a.2.1.map fa) a.1 a.2.2.reverse=bs (a.2.1.map fa) a.1 (a.2.2.take (b.2+1).toNat).reverse) (λ_ b=>(b.2+1).toNat)
 (λa x=>(∃s,bs (a.2.1.map fa) a.1 a.2.2.reverse=some s/\x=(.ret,⟨70,[(4,.ref 0 0 0),(5,iD 0)],[(0,⟨0,none,rj s⟩)]⟩))\/(bs (a.2.1.map fa) a.1 a.2.2.reverse=none/\x=(.exit 0,⟨70,[(4,.ref 0 0 0)],[(0,⟨0,none,rj (0,0)⟩)]⟩)))
 (by
  rintro⟨o,r,m⟩ ⟨z,i⟩ ⟨hm,h1,h2,hu⟩
  try dsimp only at*
  have tr:List.take r.length (r.map aQ)=r.map aQ:=zah (by simp);have th: ∀h:List Hd,List.take h.length (h.map bI)=h.map bI:=λh=>zah (by simp);have core: ∀(hp:i>=0),∃(g:ak),D.nth (m.map aQ) i.toNat=aQ g/\bs (r.map fa) o m.reverse=if g.bN=(0,0) then none else if vr (r.map fa) g.s=true/\g.s∈o then some g.s else bs (r.map fa) o (m.take i.toNat).reverse:=λhp=>by
   have aY:i.toNat<m.length:=by omega
   rw[show(i+1).toNat=i.toNat+1 by omega,Ht aY] at hu;exact⟨m[i.toNat],ay _ _ _ aY,hu⟩
  have AT: ¬i>=0->bs (r.map fa) o m.reverse=none:=λhp=>by rw[hu,show(i+1).toNat=0 by omega];rfl
  have nx:i>=0-> ∀z',bs (r.map fa) o m.reverse=bs (r.map fa) o (m.take i.toNat).reverse->roundPost (i+1).toNat (λk s=> ∃b':Bool×Int,s=re b'.1 o r m b'.2/\((m.length<=1000000/\o.length<=1000000/\r.length<=1000000)/\ -1<=b'.2/\b'.2<m.length/\bs (r.map fa) o m.reverse=bs (r.map fa) o (m.take (b'.2+1).toNat).reverse)/\k=(b'.2+1).toNat) (λx=>(∃s,bs (r.map fa) o m.reverse=some s/\x=(.ret,⟨70,[(4,.ref 0 0 0),(5,iD 0)],[(0,⟨0,none,rj s⟩)]⟩))\/(bs (r.map fa) o m.reverse=none/\x=(.exit 0,⟨70,[(4,.ref 0 0 0)],[(0,⟨0,none,rj (0,0)⟩)]⟩))) (.normal,re z' o r m (i-1)):=λhp z' hk=>
   ⟨i.toNat,by omega,(z',i-1),rfl,⟨hm,by show-1<=i-1;omega,by show i-1<_;omega,by show _=bs (r.map fa) o (m.take (i-1+1).toNat).reverse;rw[hk,show(i-1+1).toNat=i.toNat by omega]⟩,by show i.toNat=(i-1+1).toNat;omega⟩
  cases z with
  |false=>
   (rw[<-qh1];delta Z7 mr rb qu Ot bT kY ZbX cr kz Zs Tt dA ZbV dX lN mZ Za Z9 Zb ZbW Zg fJ my nO OP ZN Ib dR mR ju fg mQ gV gW qe mP sI D2 D5 iR Zx cS ZbO ZbP Ic cK eD iA gX ki Z2)
   refine b7 (λhp=> ?_) λhp=> .inr ⟨AT hp,rfl⟩;obtain⟨g,e1,key⟩:=core hp;rw[e1,tr];have vz:i.toNat<(m.map aQ).length:=by rw[zaa];omega
   have kQ:=cY g;have v:(D.aj (D.ar (aQ g) 4)==0&&(D.aj (D.ar (aQ g) 5)==0&&true))=(g.bN==(0,0)):=DM g.bN (0,0);rw[v];refine ao ⟨hp,h2⟩ (ao vz (aq kQ (az (λhb=>⟨r,rfl,rfl,hm.2.2,λh hh=>ao ⟨hp,h2⟩ (ao vz (aq kQ ⟨h,g.s,by rw[th];rfl,rfl,by rw[hh,zaa];exact hm.2.2,λe r1 ev hr=> ?_⟩))⟩) λhb=> .inr ⟨?_,rfl⟩)))
   ·have hz: ¬g.bN=(0,0):=λhz=>by rw[hz] at hb;simp at hb
    have Ep:vr (r.map fa) g.s=(e==0&& !ev):=by unfold vr;rw[<-hh,hr]
    rw[zal hz,Ep] at key;refine Ai (λhe=>az (λhv=>ao ⟨hp,h2⟩ (ao vz (aq kQ ⟨o,g.s,rfl,rfl,hm.2.1,λb cm=>az (λvp=>ao ⟨hp,h2⟩ (ao vz (aq kQ ?_))) λuq=>ao (by omega) ?_⟩))) λhv=>ao (by omega) ?_) λhe=>ao (by omega) ?_
    ·have ho:(e==0&& !ev)=true:=by rw[hv];simp[he]
     have jt:g.s∈o:=by rw[cm,zai] at vp;exact vp
     exact .inl ⟨g.s,by rw[key,zao ⟨ho,jt⟩],rfl⟩
    ·refine nx hp true ?_;have jt: ¬g.s∈o:=by rw[cm,zaE] at uq;exact uq
     rw[key,zal (λhh=>jt hh.2)]
    ·refine nx hp true ?_;rw[key,zal (λhh=>by rw[hv,zca] at hh;cases hh.1)]
    refine nx hp true ?_;rw[key,zal (λhh=>he (by have:=hh.1;rw[zab] at this;simpa using this.1))]
   have hz:g.bN=(0,0):=by simpa using hb
   rw[key,zao hz]
  |true=>
   (rw[<-qh2];delta Z7 mr rb qu Ot bT kY ZbX cr kz Zs Tt dA ZbV dX lN mZ Za Z9 Zb ZbW Zg fJ my nO OP ZN Ib dR mR ju fg mQ gV gW qe mP sI D2 D5 iR Zx cS ZbO ZbP Ic cK eD iA gX ki Z2)
   refine b7 (λhp=> ?_) λhp=> .inr ⟨AT hp,rfl⟩;obtain⟨g,e1,key⟩:=core hp;rw[e1,tr];have vz:i.toNat<(m.map aQ).length:=by rw[zaa];omega
   have kQ:=cY g;have v:(D.aj (D.ar (aQ g) 4)==0&&(D.aj (D.ar (aQ g) 5)==0&&true))=(g.bN==(0,0)):=DM g.bN (0,0);rw[v];refine ao ⟨hp,h2⟩ (ao vz (aq kQ (az (λhb=>⟨r,rfl,rfl,hm.2.2,λh hh=>ao ⟨hp,h2⟩ (ao vz (aq kQ ⟨h,g.s,by rw[th];rfl,rfl,by rw[hh,zaa];exact hm.2.2,λe r1 ev hr=> ?_⟩))⟩) λhb=> .inr ⟨?_,rfl⟩)))
   ·have hz: ¬g.bN=(0,0):=λhz=>by rw[hz] at hb;simp at hb
    have Ep:vr (r.map fa) g.s=(e==0&& !ev):=by unfold vr;rw[<-hh,hr]
    rw[zal hz,Ep] at key;refine Ai (λhe=>az (λhv=>ao ⟨hp,h2⟩ (ao vz (aq kQ ⟨o,g.s,rfl,rfl,hm.2.1,λb cm=>az (λvp=>ao ⟨hp,h2⟩ (ao vz (aq kQ ?_))) λuq=>ao (by omega) ?_⟩))) λhv=>ao (by omega) ?_) λhe=>ao (by omega) ?_
    ·have ho:(e==0&& !ev)=true:=by rw[hv];simp[he]
     have jt:g.s∈o:=by rw[cm,zai] at vp;exact vp
     exact .inl ⟨g.s,by rw[key,zao ⟨ho,jt⟩],rfl⟩
    ·refine nx hp true ?_;have jt: ¬g.s∈o:=by rw[cm,zaE] at uq;exact uq
     rw[key,zal (λhh=>jt hh.2)]
    ·refine nx hp true ?_;rw[key,zal (λhh=>by rw[hv,zca] at hh;cases hh.1)]
    refine nx hp true ?_;rw[key,zal (λhh=>he (by have:=hh.1;rw[zab] at this;simpa using this.1))]
   have hz:g.bN=(0,0):=by simpa using hb
   rw[key,zao hz])
 (by
  rintro s ae ⟨o,r,m,i,rfl,⟨hi,hm,ho,hr⟩,uC,O9⟩;refine⟨(o,r,m),(false,i),rfl,⟨⟨hm,ho,hr⟩,by show-1<=i;omega,by show i<(m.length:Int);omega,?_⟩,?_⟩
  ·show bs (r.map fa) o m.reverse=bs (r.map fa) o (m.take (i+1).toNat).reverse;rw[zah (by omega)]
  rintro x (⟨s,h,rfl⟩| ⟨h,rfl⟩)
  ·exact uC s h
  exact O9 h)
theorem qh9:FD X 24 Kl:=FD.mk (H:=[(32,zM),(41,hRo)]) (hk:=[(4,ah (aL 24 4) qe7)]) (by kernel_rfl) (.cons Kn (.cons qhB .nil)) (.cons qaM .nil) (by
 intro ps R ae hh;obtain⟨l,r,rfl,rfl,hs,hp⟩:=hh
 (rw[<-qh0];delta Z7 ZbN mr gV gW qe ZbM dR mR dA iR Zt qt Ka cr kz sP rb qu ZbS gX mZ dX lN bT kY Za Z9 ZbU Zv cS tc Zx rn)
 have hl:=hs.1.1;have h1:=qW l;have h2:=cF l;have h3:(rp (aC l) r).length<=(aC l).length:=by unfold rp;rw[(bZ _).length_eq];exact zaU _ _
 have hr:=Hl (r:=r) (iu l);refine⟨l,rfl,rfl,hs,λo t p x ho _ _ _=>⟨l,r,rfl,rfl,hs.1,λm hm=>ao (by rw[hm];omega) ⟨o,m,_,rfl,⟨rfl,by rw[hm];omega,by rw[ho];omega⟩,λs hx=> ?_,λhx=> ?_⟩⟩⟩
 ·exact hp (s,0) (by unfold rS;rw[<-hr,<-hm,<-ho,hx];rfl)
 exact hp ((0,0),200) (by unfold rS;rw[<-hr,<-hm,<-ho,hx];rfl))
theorem qia:FD X 25 Km:=FD.mk (H:=[(40,nE),(32,zM),(41,hRo)]) (hk:=[(5,ah (aL 25 5) gRe)]) (by kernel_rfl) (.cons qn (.cons Kn (.cons qhB .nil))) (.cons qff .nil) (by
 intro ps R ae hh;obtain⟨l,r,rfl,rfl,hs,hp⟩:=hh
 (rw[<-qh3];delta Z7 ZbN mr gV gW qe ZbM dR mR dA iR Zt H2 cr kz sP rb qu gX ZbV dX lN mZ bT kY Za Z9 ZbU Zv cS tc Zx rn)
 have hl:=hs.1.1;have h1:=qW l;have h2:=cF l;have h3:(rp (aC l) r).length<=(aC l).length:=by unfold rp;rw[(bZ _).length_eq];exact zaU _ _
 have hr:=Hl (r:=r) (iu l);refine⟨l,rfl,rfl,hs.1,λq hq=>⟨l,rfl,rfl,hs,λo t p x ho _ _ _=>⟨l,r,rfl,rfl,hs.1,λm hm=>ao (by rw[hm];omega) ⟨o,q,m,_,rfl,⟨rfl,by rw[hm];omega,by rw[ho];omega,by rw[hq];omega⟩,λs hx=> ?_,λhx=> ?_⟩⟩⟩⟩
 ·exact hp (s,0) (by unfold qk;rw[<-hr,<-hm,<-ho,show oG l=q.map fa by rw[hq];rfl,hx];rfl)
 exact hp ((0,0),200) (by unfold qk;rw[<-hr,<-hm,<-ho,show oG l=q.map fa by rw[hq];rfl,hx];rfl))
end
structure b8(i:Int)(l:List ak):Prop where
 Ko: ∀g∈l,cE g=true
 nd:(l.map (·.s)).Nodup
 sm: ∀g∈l,(1<=g.s.2/\g.s.2<=3)/\(g.s.1<=i/\g.n<=i)/\g.ops.length<=1/\ ∀o∈g.ops,o.text.length<=2/\o.elems.length<=3
 len:(l.length:Int)<=i
structure oZ(i:Int)(l:List ak)(K:List (List Int)):Prop where
 len:K.length=3
 vec: ∀v∈K,dp v=true/\ ∀r,eB v r<=i
 own: ∀g∈l,g.n<=eB (K.getD (g.s.2-1).toNat []) g.s.2
 top: ∀v∈K,∀r,1<=r->r<=3->eB v r<=eB (K.getD (r-1).toNat []) r
structure jN(i:Int)(K:List (List Int))(r:Int)(v:List Int):Prop where
 vec:dp v=true/\ ∀q,eB v q<=i
 own:eB v r=eB (K.getD (r-1).toNat []) r
 top: ∀q,1<=q->q<=3->eB v q<=eB (K.getD (q-1).toNat []) q
def aU(l:List ak)(v:List Int):List ak:=l.filter λg=>decide (g.n<=eB v g.s.2)
theorem zN{v:List Int}(h:dp v=true)(r:Int):0<=eB v r:=by
 unfold dp at h;rw[zai] at h;unfold eB;split
 ·exact zbz _
 rw[zac];cases hk:v[(r-1).toNat]? with
 |none=>exact zbz _
 |some x=>exact h.1 x (zaC hk)
theorem oN{v:List Int}(h:dp v=true):v.length<=16:=by unfold dp at h;rw[zai] at h;exact h.2.1
theorem vG{v:List Int}(h1: ∀n∈v,0<=n)(h2:v.length<=16):dp (bb v)=true:=by unfold dp;rw[zai];refine⟨λn hn=>h1 n (zbq hn),?_,by rw[Gn]⟩;rw[oz];have:=ov v v.length;omega
theorem Cp(v:List Int)(r:Int):eB (bb v) r=eB v r:=by
 by_cases h:1<=r
 ·rw[mn _ h,mn _ h,oA]
 unfold eB;rw[zao (by omega),zao (by omega)]
theorem qaN{n:Nat}{f:Nat->Int}{r:Int}(h:1<=r):eB (pb n f) r=if(r-1).toNat<n then f (r-1).toNat else 0:=by rw[mn _ h,p8]
theorem sS{n:Nat}{f:Nat->Int}(h: ∀i,0<=f i): ∀x∈pb n f,0<=x:=by intro x hx;unfold pb at hx;obtain⟨i,_,rfl⟩:=zaA.1 hx;exact h i
theorem qaO{v:List Int}{r n:Int}(h1:1<=r)(q:Int)(hq:1<=q):eB (bb (e8 v r n)) q=if q=r then n else eB v q:=by
 rw[Cp];unfold e8;rw[qaN hq];have e:(((q-1).toNat:Nat):Int)+1=q:=by omega
 simp only[e];split
 ·rfl
 rename_i h;rw[zal (by omega),mn _ hq,mq (by omega)]
theorem Mj{v:List Int}{q:Int}(h:q<1):eB v q=0:=by unfold eB;rw[zao (by omega)]
theorem U0{v:List Int}{r n:Int}(hv:dp v=true)(h1:1<=r)(h2:r<=16)(hn:0<=n):dp (bb (e8 v r n))=true:=by
 refine vG (sS λi=> ?_) ?_
 ·split
  ·exact hn
  exact zN hv _
 unfold e8;rw[Gl];have:=oN hv;omega
theorem zO(v w:List Int)(q:Int)(hq:1<=q):eB (mN v w) q=max (eB v q) (eB w q):=by unfold mN;rw[Cp,mn _ hq,Rr,<-mn _ hq,<-mn _ hq]
theorem Cq{v w:List Int}(hv:dp v=true)(hw:dp w=true):dp (mN v w)=true:=by
 refine vG (sS λi=> ?_) ?_
 ·have:=zN hv ((i:Int)+1);omega
 unfold Xw;rw[Gl];have:=oN hv;have:=oN hw;omega
theorem jN.start{i:Int}{l:List ak}{K:List (List Int)}(h:oZ i l K){r:Int}(h1:1<=r)(h2:r<=3):jN i K r (K.getD (r-1).toNat []):=by
 have hm:K.getD (r-1).toNat []∈K:=by rw[zac,zae (by rw[h.len];omega)];exact zas _
 exact⟨h.vec _ hm,rfl,λq h3 h4=>h.top _ hm q h3 h4⟩
theorem jN.merge{i:Int}{l:List ak}{K:List (List Int)}(h:oZ i l K){r:Int}(h1:1<=r)(h2:r<=3){v w:List Int}(hv:jN i K r v)(hw:w∈K):jN i K r (mN v w):=by
 have hww:=h.vec _ hw;refine⟨⟨Cq hv.vec.1 hww.1,λq=> ?_⟩,?_,λq h3 h4=> ?_⟩
 ·by_cases hq:1<=q
  ·rw[zO _ _ _ hq];have:=hv.vec.2 q;have:=hww.2 q;omega
  have:=hww.2 q;rw[Mj (by omega)] at this⊢;exact this
 ·rw[zO _ _ _ h1,<-hv.own];have:=h.top _ hw r h1 h2;rw[<-hv.own] at this;omega
 rw[zO _ _ _ h3];have:=h.top _ hw q h3 h4;have:=hv.top q h3 h4;omega
def fW(l:List ak)(v:List Int)(r:Int):aw:=(mY (aU l v)+1,r)
structure zP(l:List ak)(v:List Int)(r:Int)(g:ak):Prop where
 s:g.s=fW l v r
 n:g.n=eB v r+1
 deps:g.deps=v
 body:(∃x∈aU l v,g.bN=x.s/\g.ops=[])\/(g.bN=(0,0)/\ ∃o m,g.ops=[o]/\kJ g.s 0 o=some m/\o.text.length<=2/\o.elems.length<=3)
theorem Er{s:aw}:JA s=true↔1<=s.1/\s.1<=1099511627776/\1<=s.2/\s.2<=16:=by show uZ s.1 s.2=true↔_;unfold uZ;rw[zai]
theorem Es{a b:aw}:l7 a b=true↔a.1<b.1\/a.1=b.1/\a.2<b.2:=by show sA a.1 a.2 b.1 b.2=true↔_;unfold sA;rw[zai]
theorem Et{g:ak}(h:cE g=true):JA g.s=true/\(1<=g.n/\g.n<=1099511627776)/\dp g.deps=true/\eB g.deps g.s.2=g.n-1:=by unfold cE V5 at h;simp only[zab,zai,zaT] at h;exact⟨h.1.1.1.1,h.1.1.1.2,h.1.1.2,h.1.2⟩
theorem jk{l:List ak}{v:List Int}{g:ak}:g∈aU l v↔g∈l/\g.n<=eB v g.s.2:=by unfold aU;rw[zb4,zai]
theorem b8.mY{i:Int}{l:List ak}(h:b8 i l)(hi:0<=i)(v:List Int):0<=mY (aU l v)/\mY (aU l v)<=i:=
 ⟨(qj _).1,DV hi _ λg hg=>(h.sm g (jk.1 hg).1).2.1.1⟩
theorem zP.Ko{i:Int}{l:List ak}{K:List (List Int)}{v:List Int}{r:Int}{g:ak}(hl:b8 i l)(hi:0<=i/\i<=1000)(h1:1<=r)(h2:r<=3)(hv:jN i K r v)(h:zP l v r g):cE g=true:=by
 have hm:=hl.mY hi.1 v;have ha:=zN hv.vec.1 r;have hb:=hv.vec.2 r;have hs:g.s.1=mY (aU l v)+1/\g.s.2=r:=by rw[h.s];exact⟨rfl,rfl⟩
 unfold cE V5;have hh:(JA g.s&&decide (1<=g.n/\g.n<=1099511627776)&&dp g.deps&&(eB g.deps g.s.2==g.n-1))=true:=by rw[h.deps,h.n,hv.vec.1,hs.2];simp only[zab,zai,zaT,zdf];refine⟨⟨Er.2 (by omega),by omega⟩,by omega⟩
 rw[hh,zaS];rcases h.body with⟨x,hx,hu,ho⟩| ⟨hu,o,m,ho,Fl,_⟩
 ·have AV:=jk.1 hx;have hr:=(Et (hl.Ko x AV.1)).1;have hr2:=Er.1 hr;have hx3:=(qj (aU l v)).2 x hx;rw[hu,zao (λe=>by have:=congrArg Prod.fst e;simp only at this;omega),hr,ho];simp only[zaS,zat,zbH,zbu];exact Es.2 (.inl (by omega))
 rw[hu,zal (by simp),ho];simp only[zap,zat,je,Fl,zbu,zai];omega
theorem zP.new{i:Int}{l:List ak}{K:List (List Int)}{v:List Int}{r:Int}{g:ak}(_:b8 i l)(hK:oZ i l K)(hv:jN i K r v)(_:zP l v r g): ∀x∈l,x.s.2=r->x∈aU l v:=by intro x hx hr;refine jk.2 ⟨hx,?_⟩;have:=hK.own x hx;rw[hr] at this⊢;rw[hv.own];exact this
theorem zP.qdd{i:Int}{l:List ak}{K:List (List Int)}{v:List Int}{r:Int}{g:ak}(hl:b8 i l)(hK:oZ i l K)(hi:0<=i/\i<=1000)(h1:1<=r)(h2:r<=3)(hv:jN i K r v)(h:zP l v r g):
  b8 (i+1) (l++[g])/\oZ (i+1) (l++[g]) (K.set (r-1).toNat (bb (e8 v r (eB v r+1)))):=by
 have hm:=hl.mY hi.1 v;have ha:=zN hv.vec.1 r;have hb:=hv.vec.2 r;have hs:g.s.1=mY (aU l v)+1/\g.s.2=r:=by rw[h.s];exact⟨rfl,rfl⟩
 have hgn:=h.n;have hc:=h.Ko hl hi h1 h2 hv;have hw:dp (bb (e8 v r (eB v r+1)))=true:=U0 hv.vec.1 h1 (by omega) (by omega);have hwa:=λq hq=>qaO (v:=v) (n:=eB v r+1) h1 q hq;have hlen:=hK.len;have pK: ∀q:Int,1<=q->q<=3->(K.set (r-1).toNat (bb (e8 v r (eB v r+1)))).getD (q-1).toNat []=if q=r then bb (e8 v r (eB v r+1)) else K.getD (q-1).toNat []:=by
  intro q h3 h4;rw[zac];split
  next e=>rw[e,zbP (by omega)];rfl
  rename_i e;rw[zaR (by omega),zac]
 refine⟨⟨?_,?_,?_,?_⟩,⟨by simp[hlen],?_,?_,?_⟩⟩
 ·intro x hx;rcases zaI.1 hx with hx |hx
  ·exact hl.Ko x hx
  rw[zbh.1 hx];exact hc
 ·rw[zaB,za2];refine⟨hl.nd,by simp,λa ha2 b cm e=> ?_⟩;simp only[zbm,List.map_nil,zbh] at cm;subst cm;obtain⟨x,hx,hxe⟩:=zaA.1 ha2;have WH:x.s=g.s:=hxe.trans e;have hk:=h.new hl hK hv x hx (by rw[WH];exact hs.2);have:=(qj (aU l v)).2 x hk;rw[WH] at this;omega
 ·intro x hx;rcases zaI.1 hx with hx |hx
  ·obtain⟨a,b,c⟩:=hl.sm x hx;exact⟨a,by omega,c⟩
  rw[zbh.1 hx];refine⟨by omega,by omega,?_⟩;rcases h.body with⟨y,_,_,ho⟩| ⟨_,o,m,ho,_,h5,h6⟩
  ·rw[ho];exact⟨by simp,λo ho=>by cases ho⟩
  rw[ho];exact⟨by simp,λo' gg=>by rw[zbh.1 gg];exact⟨h5,h6⟩⟩
 ·have:=hl.len;rw[zan,List.length_singleton];omega
 ·intro u hu;rcases zc9 hu with hu |rfl
  ·exact⟨(hK.vec u hu).1,λq=>by have:=(hK.vec u hu).2 q;omega⟩
  refine⟨hw,λq=> ?_⟩;by_cases hq:1<=q
  ·rw[hwa q hq];have:=hv.vec.2 q;split<;>omega
  rw[Mj (by omega)];omega
 ·intro x hx;rcases zaI.1 hx with hx |hx
  ·obtain⟨a,_,_⟩:=hl.sm x hx;rw[pK _ a.1 a.2];have h3:=hK.own x hx;split
   next e=>rw[e,hwa r h1,zao rfl];rw[e,<-hv.own] at h3;omega
   exact h3
  rw[zbh.1 hx,hs.2,pK r h1 h2,zao rfl,hwa r h1,zao rfl];omega
 intro u hu q h3 h4;rw[pK q h3 h4];rcases zc9 hu with hu |rfl
 ·have h5:=hK.top u hu q h3 h4;split
  next e=>rw[hwa q h3,zao e];rw[e] at h5⊢;rw[<-hv.own] at h5;omega
  exact h5
 split
 ·exact zbz _
 rename_i e;rw[hwa q h3,zal e];exact hv.top q h3 h4
theorem U1:b8 0 []/\oZ 0 [] [[],[],[]]:=by
 refine⟨⟨(λ_ h=>by cases h),by simp,(λ_ h=>by cases h),by simp⟩,⟨rfl,?_,(λ_ h=>by cases h),?_⟩⟩
 ·intro v hv;have:v=[]:=by simpa using hv
  subst this;refine⟨by decide,λr=> ?_⟩;unfold eB;split<;>simp
 intro v hv r h1 h2;have:v=[]:=by simpa using hv
 subst this;have e:eB [] r=0:=by unfold eB;split<;>simp
 have h3:([[],[],[]]:List (List Int)).getD (r-1).toNat []=[]:=by
  have key: ∀n:Nat,([[],[],[]]:List (List Int)).getD n []=[]:=λn=>by
   match n with
   |0=>rfl
   |1=>rfl
   |2=>rfl
   |_+3=>rfl
  exact key _
 rw[h3];exact zbz _
theorem op1{i:Int}{l:List ak}(hl:b8 i l){g:ak}(hg:g∈l){o:aX}(ho:o∈g.ops): ∃m,kJ g.s 0 o=some m:=by
 have h1:=(hl.sm g hg).2.2.1;have h2:=D9 (hl.Ko g hg);cases Bd:g.ops with
 |nil=>rw[Bd] at ho;cases ho
 |cons a r=>
  rw[Bd] at h1 ho h2;have hr:r=[]:=by simpa using h1
  subst hr;rw[zbh.1 ho];unfold je at h2;split at h2
  ·exact⟨_,by assumption⟩
  cases h2
theorem U2{s t:aw}{k:Int}(ht:JA t=true)(bG:t.1<s.1)(h0:0<=k)(hk:k<=400000):db s 0 (t.1,t.2,k)=true:=by have:=Er.1 ht;unfold db;rw[zab,za9];refine⟨?_,.inl (Es.2 (.inl bG))⟩;show cy t.1 t.2 k=true;unfold cy;rw[zai];omega
def iy(l:List ak)(x:av):Prop:= ∃g∈l,GB x=g.s/\0<=x.2.2/\x.2.2<=1000
theorem iy.ahead{i:Int}{l:List ak}(hl:b8 i l){v:List Int}{r:Int}{x:av}(h:iy (aU l v) x):db (fW l v r) 0 x=true:=by obtain⟨g,hg,hs,h0,h1⟩:=h;have hg2:=jk.1 hg;have:=(qj (aU l v)).2 g hg;have hrg:=(Et (hl.Ko g hg2.1)).1;have CV:x.1=g.s.1:=congrArg Prod.fst hs;have AV:x.2.1=g.s.2:=congrArg Prod.snd hs;have hh:=U2 (s:=fW l v r) hrg (show g.s.1<mY (aU l v)+1 by omega) h0 (by omega);obtain⟨a,b,c⟩:=x;simp only at CV AV;rw[CV,AV];exact hh
theorem iy.par{i:Int}{l:List ak}(hl:b8 i l){v:List Int}{r:Int}{x:av}(h:x=aB\/iy (aU l v) x):l8 (fW l v r) 0 x=true:=by
 unfold l8;rcases h with rfl |h
 ·simp
 rw[h.ahead hl,Bool.or_true]
theorem U3{i:Int}{l:List ak}(hl:b8 i l){g:ak}(hg:g∈l){o:aX}(ho:o∈g.ops)(hk:o.kind=0):iy l o.node:=by obtain⟨m,hm⟩:=op1 hl hg ho;obtain⟨h1,_⟩:=Hf hm hk;exact⟨g,hg,by rw[h1],by rw[h1];exact zbz _,by rw[h1];show(0:Int)<=1000;decide⟩
theorem Mk{s:aw}{k n:Int}{o:aX}(h:kJ s k o=some n)(h0:o.kind=3):o.elem=(s.1,s.2,k):=by
 unfold kJ at h;rw[zal (by omega: ¬o.kind=0),zal (by omega: ¬o.kind=1),zal (by omega: ¬o.kind=2),zao h0] at h;split at h
 ·cases h
 split at h
 next hh=>exact hh.2.2.1
 cases h
theorem U4{i:Int}{l:List ak}(hl:b8 i l){g:ak}(hg:g∈l){o:aX}(ho:o∈g.ops)(hk:o.kind=3){k:Int}(h0:0<=k)(h1:k<=1000):iy l (o.elem.1,o.elem.2.1,o.elem.2.2+k):=by obtain⟨m,hm⟩:=op1 hl hg ho;have h2:=Mk hm hk;rw[h2];exact⟨g,hg,rfl,by show 0<=0+k;omega,by show 0+k<=1000;omega⟩
def Hu(s:aw)(p:av)(nm:List UInt8)(d:Bool):aX:=⟨0,(s.1,s.2,0),p,nm,d,[],aB,aB,[],[]⟩
def U5(x p:av)(nm:List UInt8):aX:=⟨1,x,p,nm,false,[],aB,aB,[],[]⟩
def U6(x:av)(d:List aw):aX:=⟨2,x,aB,[],false,d,aB,aB,[],[]⟩
def qaP(s:aw)(x a:av)(t:List UInt8):aX:=⟨3,x,aB,[],false,[],a,(s.1,s.2,0),t,[]⟩
def qaQ(x:av)(e:List av):aX:=⟨4,x,aB,[],false,[],aB,aB,[],e⟩
section
variable{i:Int}{l:List ak}(hl:b8 i l){v:List Int}{r:Int}
include hl
theorem Ml{p:av}(hp:p=aB\/iy (aU l v) p){nm:List UInt8}(hn:dQ nm=true)(d:Bool):kJ (fW l v r) 0 (Hu (fW l v r) p nm d)=some 1:=by have h1:=iy.par hl (r:=r) hp;simp[kJ,Hu,fD,ky,h1,hn]
theorem qaR{x p:av}(hx:iy (aU l v) x)(hp:p=aB\/iy (aU l v) p){nm:List UInt8}(hn:dQ nm=true):kJ (fW l v r) 0 (U5 x p nm)=some 0:=by have h1:=iy.par hl (r:=r) hp;have h2:=hx.ahead hl (r:=r);simp[kJ,U5,fD,ky,h1,h2,hn]
theorem qaS{x:av}(hx:iy (aU l v) x){d:List aw}(hd: ∀s∈d,∃g∈aU l v,g.s=s)(hs:d.Pairwise λa b=>l7 a b=true)(hln:d.length<=200):kJ (fW l v r) 0 (U6 x d)=some 0:=by
 have h2:=hx.ahead hl (r:=r);have h3:nA (fW l v r) d=true:=by
  unfold nA;rw[zab,zai];refine⟨vb λk hk=> ?_,hln⟩;unfold l9;have hg:d.getD k (0,0)=d[k]:=by rw[zac,zae hk];rfl
  obtain⟨g,hgm,hgs⟩:=hd _ (zas hk);have hg2:=jk.1 hgm;have h4:=(qj (aU l v)).2 g hgm;rw[hg,<-hgs];rw[zab,zab,za9];refine⟨⟨(Et (hl.Ko g hg2.1)).1,?_⟩,?_⟩
  ·rw[zbt,<-zaX,Es];show ¬(mY (aU l v)+1<g.s.1\/mY (aU l v)+1=g.s.1/\r<g.s.2);omega
  by_cases h0:k=0
  ·exact .inl (by simp[h0])
  refine .inr ?_;have HJ:d.getD (k-1) (0,0)=d[k-1]:=by rw[zac,zae (by omega)];rfl
  rw[HJ,hgs];exact zbj.1 hs (k-1) k (by omega) hk (by omega)
 simp[kJ,U6,fD,ky,h2,h3]
theorem qaT{x a:av}(hx:iy (aU l v) x)(ha:a=aB\/iy (aU l v) a){t:List UInt8}(ht:nB t=true):kJ (fW l v r) 0 (qaP (fW l v r) x a t)=some (AX t):=by have h1:=iy.par hl (r:=r) ha;have h2:=hx.ahead hl (r:=r);simp[kJ,qaP,fD,ky,h1,h2,ht]
theorem qaU{x:av}(hx:iy (aU l v) x){e:List av}(he: ∀y∈e,iy (aU l v) y)(hs:e.Pairwise λa b=>mO a b=true)(h1:1<=e.length)(h3:e.length<=3):kJ (fW l v r) 0 (qaQ x e)=some 0:=by
 have h2:=hx.ahead hl (r:=r);have h4:tY (fW l v r) 0 e=true:=by
  unfold tY;rw[zab,zai];refine⟨vb λk hk=> ?_,by omega⟩;unfold B5;have hg:e.getD k aB=e[k]:=by rw[zac,zae hk];rfl
  rw[hg,zab,za9];refine⟨(he _ (zas hk)).ahead hl,?_⟩;by_cases h0:k=0
  ·exact .inl (by simp[h0])
  refine .inr ?_;have HJ:e.getD (k-1) aB=e[k-1]:=by rw[zac,zae (by omega)];rfl
  rw[HJ];exact zbj.1 hs (k-1) k (by omega) hk (by omega)
 simp[kJ,qaQ,fD,ky,h2,h4]
end
abbrev bS:=av×av×List UInt8
abbrev gS:=av×av×List UInt8
def qx(t:List UInt8):List (List UInt8):=if Lib.validD t=true then HT t else []
def Ar(r:bS)(k:Nat):av:=(r.2.1.1,r.2.1.2.1,r.2.1.2.2+k)
def elA(r:bS):Nat->av
 |0=>r.1
 |k+1=>Ar r k
def U7(o:List gS)(x a:av)(p:List UInt8):List gS:=if x=aB\/(o.any λe=>e.1==x)=true then o else o++[(x,a,p)]
def Mm(r:bS)(o:List gS)(l:List (List UInt8)):List gS:=l.zipIdx.foldl (λo p=>U7 o (Ar r p.2) (elA r p.2) p.1) o
def elR(o:List gS)(r:bS):List gS:=Mm r o (qx r.2.2)
def Hv(l:List bS):List gS:=l.foldl elR []
theorem zQ{r:bS}{o:List gS}{l:List (List UInt8)}{i:Nat}(h:i<l.length):Mm r o (l.take (i+1))=U7 (Mm r o (l.take i)) (Ar r i) (elA r i) l[i]:=by unfold Mm;rw[zag h,List.zipIdx_append,za3];simp[zay,zci (Nat.le_of_lt h)]
theorem zR{l:List bS}{i:Nat}(h:i<l.length):Hv (l.take (i+1))=elR (Hv (l.take i)) l[i]:=by unfold Hv;rw[zag h,za3];rfl
theorem qaV(o:List gS)(x a:av)(p:List UInt8):(U7 o x a p).length<=o.length+1:=by
 unfold U7;split
 ·omega
 simp
theorem Eu{r:bS}{o:List gS}{l:List (List UInt8)}: ∀i,i<=l.length->(Mm r o (l.take i)).length<=o.length+i
 |0,_=>by simp[Mm]
 |i+1,hi=>by rw[zQ (by omega)];have:=qaV (Mm r o (l.take i)) (Ar r i) (elA r i) (l[i]'(by omega));have:=Eu (r:=r) (o:=o) (l:=l) i (by omega);omega
def Hw(R:List bS)(o:List gS):Prop:=(o.map (·.1)).Nodup/\ ∀e∈o,e.1≠aB/\ ∃r∈R,∃k,k<(qx r.2.2).length/\e.1=Ar r k/\e.2.1=elA r k
theorem Hw.step{R:List bS}{o:List gS}(h:Hw R o){r:bS}(hr:r∈R){k:Nat}(hk:k<(qx r.2.2).length)(p:List UInt8):Hw R (U7 o (Ar r k) (elA r k) p):=by
 unfold U7;split
 ·exact h
 rename_i hn;refine⟨?_,λe he=> ?_⟩
 ·rw[zaB,za2];refine⟨h.1,by simp,λa ha b hb e=> ?_⟩;rw[show b=Ar r k by simpa using hb] at e;obtain⟨y,hy,hye⟩:=zaA.1 ha;exact hn (.inr (zby.2 ⟨y,hy,by simpa using hye.trans e⟩))
 rcases zaI.1 he with he |he
 ·exact h.2 e he
 rw[zbh.1 he];exact⟨λe=>hn (.inl e),r,hr,k,hk,rfl,rfl⟩
theorem Hw.run{R:List bS}{o:List gS}(h:Hw R o){r:bS}(hr:r∈R): ∀i,i<=(qx r.2.2).length->Hw R (Mm r o ((qx r.2.2).take i))
 |0,_=>by simpa [Mm] using h
 |i+1,hi=>by rw[zQ (by omega)];exact(Hw.run h hr i (by omega)).step hr (by omega) _
theorem Kp{l:List bS}: ∀i,i<=l.length->Hw l (Hv (l.take i))
 |0,_=>⟨by simp[Hv],λe he=>by simp[Hv] at he⟩
 |i+1,hi=>by rw[zR (by omega)];have:=(Kp (l:=l) i (by omega)).run (zas (show i<l.length by omega)) (qx (l[i]'(by omega)).2.2).length (zak _);rwa [zaj] at this
def Ie(l:List bS):Nat:=(l.map λr=>(qx r.2.2).length).sum
theorem Cr{l:List bS}{i:Nat}(h:i<l.length):Ie (l.take (i+1))=Ie (l.take i)+(qx l[i].2.2).length:=by unfold Ie;rw[zag h,zaB,List.sum_append];simp only[zbm,List.map_nil,List.sum_cons,List.sum_nil,zbR]
theorem U8(l:List bS)(i:Nat):Ie (l.take i)<=Ie l:=by
 have:Ie l=Ie (l.take i)+Ie (l.drop i):=by unfold Ie;rw[<-List.sum_append,<-zaB,zbS]
 omega
theorem xI{l:List bS}: ∀i,i<=l.length->(Hv (l.take i)).length<=Ie (l.take i)
 |0,_=>by simp[Hv]
 |i+1,hi=>by rw[zR (by omega),Cr (by omega)];have h1:=xI (l:=l) i (by omega);have h2:=Eu (r:=l[i]'(by omega)) (o:=Hv (l.take i)) (l:=qx (l[i]'(by omega)).2.2) _ (zak _);rw[zaj] at h2;unfold elR;omega
theorem zS{α β:Type}(f:α->β){l:List α}(h:(l.map f).Nodup):l.Nodup:=List.Pairwise.of_map f (λ_ _ h e=>h (congrArg f e)) h
def gtE(a b:gS):Bool:=mO b.1 a.1
def Hx(all:List gS)(x:av):List gS:=cp gtE (all.filter λe=>e.2.1==x)
theorem ur{all:List gS}{x:av}{e:gS}:e∈Hx all x↔e∈all/\e.2.1=x:=by unfold Hx;rw[(bZ _).mem_iff,zb4,zaT]
structure Kq(all o w:List gS):Prop where
 nd:((o++w).map (·.1)).Nodup
 sub: ∀e∈o++w,e∈all/\(e.2.1=aB\/ ∃y∈o,y.1=e.2.1)
theorem Kq.len{all o w:List gS}(h:Kq all o w):o.length+w.length<=all.length:=by have h1:(o++w).Nodup:=zS _ h.nd;have:=h1.length_le_of_subset (l₂:=all) λe he=>(h.sub e he).1;rwa [zan] at this
theorem Kq.step{all o w:List gS}{x:gS}(ha:(all.map (·.1)).Nodup)(hr: ∀e∈all,e.1≠aB)(h:Kq all o (x::w)):Kq all (o++[x]) (Hx all x.1++w):=by
 have hx:=h.sub x (zbd _ (.head _));have kS:=h.nd;have e1:o++x::w=o++[x]++w:=by simp
 rw[e1] at kS;have jZ: ∀e∈o++[x]++w,e∈all/\(e.2.1=aB\/ ∃y∈o,y.1=e.2.1):=λe he=>h.sub e (by rwa [e1]);have hxo: ∀y∈o,y.1≠x.1:=by intro y hy e;rw[zaB,zaB,za2] at kS;have:=(za2.1 kS.1).2.2 y.1 (za6 hy) x.1 (by simp);exact this e
 have gl: ∀e∈Hx all x.1,e∉o++[x]++w:=by
  intro e he aY;obtain⟨_,h2⟩:=ur.1 he;rcases(jZ e aY).2 with h3 | ⟨y,hy,h3⟩
  ·exact hr x hx.1 (by rw[<-h2,h3])
  exact hxo y hy (by rw[h3,h2])
 have hb:(Hx all x.1).Nodup:=by unfold Hx;exact(bZ _).nodup_iff.2 (zcj.nodup (zS _ ha))
 have key: ∀L:List gS,L.Nodup->(∀e∈L,e∈all)->(L.map (·.1)).Nodup:=by
  intro L
  induction L with
  |nil=>exact λ_ _=>by simp
  |cons a r ih=>intro h1 h2;rw[za7] at h1;rw[zbm,za7];refine⟨λhm=> ?_,ih h1.2 λe he=>h2 e (.tail _ he)⟩;obtain⟨y,hy,e⟩:=zaA.1 hm;have:=qg ha y (h2 y (.tail _ hy)) a (h2 a (.head _)) e;exact h1.1 (this▸hy)
 refine⟨key _ ?_ ?_,?_⟩
 ·have hold:(o++[x]++w).Nodup:=zS _ kS;rw[za2] at hold⊢;refine⟨hold.1,?_,λa ha2 b cm e=> ?_⟩
  ·rw[za2];refine⟨hb,hold.2.1,λa ha2 b cm e=> ?_⟩;subst e;exact gl a ha2 (zbd _ cm)
  subst e;rcases zaI.1 cm with cm |cm
  ·exact gl a cm (zbA _ ha2)
  exact hold.2.2 a ha2 a cm rfl
 ·intro e he;rcases zaI.1 he with he |he
  ·exact(jZ e (zbA _ he)).1
  rcases zaI.1 he with he |he
  ·exact(ur.1 he).1
  exact(jZ e (zbd _ he)).1
 intro e he;have hold: ∀e,e∈o++[x]++w->e∈all/\(e.2.1=aB\/ ∃y∈o++[x],y.1=e.2.1):=by
  intro e he;obtain⟨h1,h2⟩:=jZ e he;refine⟨h1,?_⟩;rcases h2 with h2 | ⟨y,hy,h2⟩
  ·exact .inl h2
  exact .inr ⟨y,zbA _ hy,h2⟩
 rcases zaI.1 he with he |he
 ·exact hold e (zbA _ he)
 rcases zaI.1 he with he |he
 ·obtain⟨h1,h2⟩:=ur.1 he;exact⟨h1,.inr ⟨x,zbd _ (.head _),h2.symm⟩⟩
 exact hold e (zbd _ he)
theorem Kq.start{all:List gS}(ha:(all.map (·.1)).Nodup):Kq all [] (Hx all aB):=by
 refine⟨?_,λe he=> ?_⟩
 ·rw[zbi];unfold Hx;exact((bZ _).map _).nodup_iff.2 (List.Nodup.sublist ((zcj).map _) ha)
 rw[zbi] at he;obtain⟨h1,h2⟩:=ur.1 he;exact⟨h1,.inl h2⟩
theorem b8.known{i:Int}{l:List ak}(h:b8 i l)(v:List Int):b8 i (aU l v):=
 ⟨λg hg=>h.Ko g (jk.1 hg).1,(zcj.map _).nodup h.nd,λg hg=>h.sm g (jk.1 hg).1,by have:=zaU (λg:ak=>decide (g.n<=eB v g.s.2)) l;have:=h.len;unfold aU;omega⟩
theorem b8.mono{i:Int}{l:List ak}(h:b8 i l):b8 (i+1) l:=⟨h.Ko,h.nd,λg hg=>by have:=h.sm g hg;grind,by have:=h.len;omega⟩
theorem oZ.mono{i:Int}{l:List ak}{K:List (List Int)}(h:oZ i l K):oZ (i+1) l K:=⟨h.len,λv hv=>⟨(h.vec v hv).1,λr=>by have:=(h.vec v hv).2 r;omega⟩,h.own,h.top⟩
theorem b8.dq{i:Int}{l:List ak}(h:b8 i l):Pi.dq l<=l.length:=by
 have key: ∀m:List ak,(∀g∈m,g.ops.length<=1)->Pi.dq m<=m.length:=λm=>by
  induction m with
  |nil=>simp[lP]
  |cons g r ih=>grind [jh]
 exact key l λg hg=>(h.sm g hg).2.2.1
def Ew(x:av)(o:aX):List bS:=if o.kind=3/\o.node=x then [(o.after,o.elem,o.text)] else []
def uu(x:av)(l:List aX):List bS:=l.flatMap (Ew x)
def fG(l:List ak)(x:av):List bS:=l.flatMap λg=>uu x g.ops
theorem U9(x:av)(o:aX):(Ew x o).length<=1:=by unfold Ew;split<;>simp
theorem zT(x:av): ∀l:List aX,(uu x l).length<=l.length
 | []=>zak _
 |o::l=>by have h1:=U9 x o;have h2:=zT x l;grind [uu]
theorem qX(x:av): ∀l:List ak,(fG l x).length<=dq l
 | []=>zak _
 |g::l=>by have h1:=zT x g.ops;have h2:=qX x l;grind [fG,jh]
theorem Hy{l:List ak}{x:av}{r:bS}(h:r∈fG l x): ∃g∈l,∃o∈g.ops,o.kind=3/\r=(o.after,o.elem,o.text):=by obtain⟨g,hg,hr⟩:=zcz.1 h;obtain⟨o,ho,hr⟩:=zcz.1 hr;grind [Ew]
def Kr(l:List ak)(x:av):List av:=cp mO ((Hv (fG l x)).map (·.1))
theorem zU(t:List UInt8):(qx t).length<=t.length:=by grind [qx,DI]
theorem Hz{i:Int}{l:List ak}(hl:b8 i l){x y:av}(h:y∈Kr l x):iy l y:=by obtain⟨e,he,rfl⟩:=zaA.1 ((bZ _).mem_iff.1 h);have:=(Kp (l:=fG l x) _ (zak _)).2;rw[zaj] at this;obtain⟨_,r,hr,k,hk,h1,_⟩:=this e he;obtain⟨g,hg,o,ho,h3,rfl⟩:=Hy hr;have hp:=zU o.text;have ht:=((hl.sm g hg).2.2.2 o ho).1;rw[h1];exact U4 hl hg ho h3 (Int.natCast_nonneg k) (by grind)
theorem qaW{l:List av}(h:l.Nodup):(cp mO l).Pairwise λa b=>mO a b=true:=by refine((Gx qbw l).and ((bZ l).nodup_iff.2 h)).imp λ{a b} O8=> ?_;rw[<-zcx];exact λe=>O8.2 (qbw.r4 _ _ e O8.1)
theorem OR(l:List ak)(x:av):(Kr l x).Pairwise λa b=>mO a b=true:=by have:=(Kp (l:=fG l x) _ (zak _)).1;rw[zaj] at this;exact qaW this
def Pv(g:List bj)(x:av)(o:List aw)(d:bj):List aw:=if d.1≠x\/d∈g\/d.2∈o then o else cJ l7 o d.2
def tR(h g:List bj)(x:av):List aw:=h.foldl (Pv g x) []
theorem Ex{h g:List bj}{x:av}{i:Nat}(hi:i<h.length):tR (h.take (i+1)) g x=Pv g x (tR (h.take i) g x) h[i]:=by grind [tR,List.take_succ_eq_append_getElem]
structure OfR(h:List bj)(o:List aw):Prop where
 sub: ∀s∈o,∃d∈h,d.2=s
 qib:o.Pairwise λa b=>l7 a b=true
theorem OS{o:List aw}(h:o.Pairwise λa b=>l7 a b=true){s:aw}(hs:s∉o):(cJ l7 o s).Pairwise λa b=>l7 a b=true:=by
 have hn:(o++[s]).Nodup:=by
  rw[za2];refine⟨h.imp λ{a b} O8 e=> ?_,by simp,λa ha b hb e=> ?_⟩
  ·rw[e,mx.K8] at O8;cases O8
  grind
 refine((Ls mx s (h.imp λ{a b} O8=>mx.asymm O8)).and ((gQ o s).nodup_iff.2 hn)).imp λ{a b} O8=> ?_;rw[<-zcx];exact λe=>O8.2 (mx.r4 _ _ e O8.1)
theorem OfR.step{h:List bj}{o:List aw}(ho:OfR h o)(g:List bj)(x:av){d:bj}(hd:d∈h):OfR h (Pv g x o d):=by
 unfold Pv;split
 ·exact ho
 rename_i hc;refine⟨λs hs=> ?_,OS ho.qib λhm=>hc (.inr (.inr hm))⟩;rcases zaI.1 ((gQ o d.2).mem_iff.1 hs) with h1 |h1
 ·exact ho.sub s h1
 grind
theorem qb8{h g:List bj}{x:av}: ∀i,i<=h.length->OfR h (tR (h.take i) g x)
 |0,_=>⟨λs hs=>by simp[tR] at hs,by simp[tR]⟩
 |i+1,hi=>by rw[Ex (by omega)];exact(qb8 i (by omega)).step g x (zas _)
theorem qaX(g:List bj)(x:av)(o:List aw)(d:bj):(Pv g x o d).length<=o.length+1:=by grind [Pv,jK]
theorem Ey{h g:List bj}{x:av}: ∀i,i<=h.length->(tR (h.take i) g x).length<=i
 |0,_=>by simp[tR]
 |i+1,hi=>by rw[Ex (by omega)];have:=qaX g x (tR (h.take i) g x) (h[i]'(by omega));have:=Ey (h:=h) (g:=g) (x:=x) i (by omega);omega
theorem Va{on:List aw}{l:List ak}: ∀i,i<=l.length-> ∀d∈(vv on (l.take i)).h,∃g∈l,g.s=d.2
 |0,_,d,hd=>by simp[vv,tl0] at hd
 |i+1,hi,d,hd=>by
  rw[ug (by omega)] at hd;have key: ∀(b:Bool) (s:aw) (m:List aX) (t:Tl),d∈(GY b s m t).h->d∈t.h\/d.2=s:=by
   intro b s m;have: ∀(m:List (aX×Nat)) (t:Tl),d∈(m.foldl (λt p=>SV b s t p.1 p.2) t).h->d∈t.h\/d.2=s:=by
    intro m
    induction m with
    |nil=>grind
    |cons p m ih=>grind [SV]
   exact λt h=>this _ t h
  rcases key _ _ _ _ hd with h |h
  ·exact Va i (by omega) d h
  grind
theorem qaY{i:Int}{l:List ak}(hl:b8 i l)(hi:i<=100){on:List aw}{g:List bj}{x:av}:(∀s∈tR (vv on l).h g x,∃y∈l,y.s=s)/\(tR (vv on l).h g x).Pairwise (λa b=>l7 a b=true)/\(tR (vv on l).h g x).length<=200:=by
 have hr:=qb8 (h:=(vv on l).h) (g:=g) (x:=x) _ (zak _);have hn:=Ey (h:=(vv on l).h) (g:=g) (x:=x) _ (zak _);rw[zaj] at hr hn;refine⟨λs hs=> ?_,hr.qib,?_⟩
 ·obtain⟨d,hd,rfl⟩:=hr.sub s hs;exact Va (on:=on) (l:=l) l.length (zak _) d (by rw[zaj];exact hd)
 have hb:=(Cg (on:=on) hl.Ko l.length (zak _)).2.2.1;rw[zaj] at hb;have:=hl.dq;have:=hl.len;omega
def sT(b:Bool)(l:List aX):List av:=(l.filter λo=>o.kind==0&&(o.dir==b)).map (·.node)
def uv(b:Bool)(l:List ak):List av:=l.flatMap λg=>sT b g.ops
theorem Mn{i:Int}{l:List ak}(hl:b8 i l){b:Bool}{y:av}(h:y∈uv b l):iy l y:=by obtain⟨g,hg,hy⟩:=zcz.1 h;obtain⟨o,ho,rfl⟩:=zaA.1 hy;grind [U3]
theorem HA(b:Bool)(l:List aX):(sT b l).length<=l.length:=by grind [sT]
theorem nJ(b:Bool): ∀l:List ak,(uv b l).length<=dq l
 | []=>zak _
 |g::l=>by have h1:=HA b g.ops;have h2:=nJ b l;grind [uv,jh]
def OpW(l:List ak)(v:List Int)(r:Int)(o:aX):Prop:=(∃m,kJ (fW l v r) 0 o=some m)/\o.text.length<=2/\o.elems.length<=3
def lT(r:bS):D:= .agg [iE r.1.1,iE r.1.2.1,iE r.1.2.2,iE r.2.1.1,iE r.2.1.2.1,iE r.2.1.2.2,.str r.2.2]
abbrev Ks(l:List bS):P:= .d (.sl 7 (l.map lT))
abbrev Vb(z:Bool)(l:List bS):Obj:= .arr 165 z (l.map lT)
abbrev xb(z:Bool)(l:List gS):Obj:= .arr 112 z (l.map lT)
abbrev vH(x:av):Obj:= .box 50 [iD x.1,iD x.2.1,iD x.2.2]
abbrev qaZ(z:Bool)(l:List (List UInt8)):Obj:= .arr 9 z (l.map D.str)
def AtG(l:List ak)(i:Int)(g:ak):Prop:=D.nth (l.map aQ) i.toNat=aQ g
def AtR(l:List bS)(i:Int)(r:bS):Prop:=D.nth (l.map lT) i.toNat=lT r
abbrev rn9(l:List ak)(x:av)(o:List bS)(i:Int):S:=⟨53,[(0,bC l),(3,.ref 0 0 0),(5,.sl 1 0 o.length),(6,iD i)],[(0,⟨0,none,vH x⟩),(1,⟨0,none,Vb false o⟩)]⟩
abbrev qa0(l:List ak)(x:av)(o:List bS)(i k:Int):S:=⟨53,[(0,bC l),(3,.ref 0 0 0),(5,.sl 1 0 o.length),(6,iD i),(7,iD k)],[(0,⟨0,none,vH x⟩),(1,⟨0,none,Vb false o⟩)]⟩
def Zcr(o:List bS):En:=En.mk 0 none (Obj.arr (165:TypeId) false (List.map lT o))
def Zcs(x:av)(o:List bS):List (Nat×En):=[w9 x,(1,Zcr o)]
def Zcq(o:List bS):Nat×P:=(5,P.sl 1 0 (List.length o))
def Zct(k:Int)(ae:PX×S->Prop)(l:List ak)(o:List bS)(i:Int)(x:av):Prop:=bif Zj k then ae (PX.normal,S.mk 53 (fE l::cN::Zcq o::ZK i::ZL k) (Zcs x o)) else False
def Zcp(l:List ak)(i:Int)(k:Int):List D:=[D.agg [D.int .i64 (D.aj (D.ar (lS l i k) 10)),D.int .i64 (D.aj (D.ar (lS l i k) 11)),D.int .i64 (D.aj (D.ar (lS l i k) 12)),D.int .i64 (D.aj (D.ar (lS l i k) 13)),D.int .i64 (D.aj (D.ar (lS l i k) 14)),D.int .i64 (D.aj (D.ar (lS l i k) 15)),D.str (D.eO (D.ar (lS l i k) 16))]]
theorem qb9(l:List ak)(x:av)(o:List bS)(i k:Int)(ae:PX×S->Prop):(bif kL i l then bif cK l i then bif decide (k<OB l i) then bif kL i l then bif cK l i then bif H7 k l i then bif H6 l i k then bif H5 l i k==(3:Int) then bif D.aj (D.ar (lS l i k) 1)==Prod.fst x&&(D.aj (D.ar (lS l i k) 2)==im x&&true)&&(D.aj (D.ar (lS l i k) 3)==gU x&&true) then bif Nat.ble (List.length o) (List.length (List.map lT o))&&aO (List.length o+List.length (Zcp l i k)) 64 then bif Zj k then ae (PX.normal,S.mk 53 (fE l::cN::(5,P.sl 1 0 (List.length o+List.length (Zcp l i k)))::ZK i::ZL k) [w9 x,(1,En.mk 0 none (Obj.arr (165:TypeId) false (List.take (List.length o) (List.map lT o)++Zcp l i k)))]) else False else False else Zct k ae l o i x else Zct k ae l o i x else False else False else False else False else ae (PX.exit 2,S.mk 53 (fE l::cN::Zcq o::Cj i) (Zcs x o)) else False else False)=(aD [] [] 59 6 (qa0 l x o i k)) ae:=by kernel_rfl
def Vc:S->K (PX×S):=λs ae=> ∃(l:List ak) (x:av) (o:List bS) (i:Int) (g:ak),AtG l i g/\s=qa0 l x o i 0/\(0<=i/\i<l.length/\o.length+g.ops.length<=1000000)/\ ∀o',o'=o++uu x g.ops->ae (.exit 2,rn9 l x o' i)
theorem qca(l:List ak)(x:av)(o:List bS)(i:Int)(ae:PX×S->Prop):(bif qP i l then∃(au:List ak) (aK:av) (aP:List bS) (aI:Int) (g:ak),AtG au aI g/\S.mk 53 (fE l::cN::Zcq o::ZK i::sw) (Zcs x o)=S.mk 53 (fE au::cN::Zcq aP::ZK aI::sw) (Zcs aK aP)/\((0:Int)<=aI/\aI<gX au/\List.length aP+List.length (ak.ops g)<=1000000)/\ ∀(o':List bS),o'=aP++uu aK (ak.ops g)->bif Zj aI then ae (PX.normal,S.mk 53 (fE au::cN::Zcq o'::ZA aI) (Zcs aK o')) else False else ae (PX.exit 0,S.mk 53 [(5,P.sl 0 0 (List.length o))] [(0,Zcr o)]))=(aD [] [(6,ah (aL 59 6) Vc)] 59 3 (rn9 l x o i)) ae:=by kernel_rfl
def qfg:S->K (PX×S):=λs ae=> ∃l x,s=rn9 l x [] 0/\(l.length<=1000000/\dq l<=1000)/\ ∀o,o=fG l x->ae (.exit 0,⟨53,[(5,.sl 0 0 o.length)],[(0,⟨0,none,Vb false o⟩)]⟩)
def Zcv(au:List ak):Prop:=iR au/\dq au<=1000
def Zcu(l:List ak)(x:av):S:=S.mk 53 (fE l::cN::Z7E) [w9 x,(1,En.mk 0 none (Obj.arr (165:TypeId) false []))]
theorem qjZ(l:List ak)(x:av)(ae:P×List (Nat×En)->Prop):(∃(au:List ak) (aK:av),Zcu l x=Zcu au aK/\Zcv au/\ ∀(o:List bS),o=fG au aK->ae (P.sl 0 0 (List.length o),[(0,Zcr o)]))=(aJ [] [(3,ah (aL 59 3) qfg)] 59 [bC l,.d (bH x)] []) ae:=by kernel_rfl
def qfh:bm:=λps R ae=> ∃l x,ps=[bC l,.d (bH x)]/\R=[]/\(l.length<=1000000/\dq l<=1000)/\ ∀o,o=fG l x->ae (.sl 0 0 o.length,[(0,⟨0,none,Vb false o⟩)])
abbrev qa1(h g:List bj)(x:av)(o:List aw)(n:Nat)(i k:Int):S:=⟨84,[(0,ji h),(1,ji g),(5,.ref 0 0 0),(7,.sl 1 0 n),(8,iD i),(9,iD k)],[(0,⟨0,none,vH x⟩),(1,⟨0,none,mA false o⟩)]⟩
abbrev of9(h g:List bj)(x:av)(o:List aw)(i:Int):S:=⟨84,[(0,ji h),(1,ji g),(5,.ref 0 0 0),(7,.sl 1 0 o.length),(8,iD i)],[(0,⟨0,none,vH x⟩),(1,⟨0,none,mA false o⟩)]⟩
def Zcx(x:av)(o:List aw):List (Nat×En):=[w9 x,(1,pd o)]
def Zcw(o:List aw)(k:Int):List D:=List.set (dX o) (Zg k) (D.aV (D.agg (A4 o k)) (X6 o k))
theorem qfi(h g:List bj)(x:av)(o:List aw)(n:Nat)(i k:Int)(ae:PX×S->Prop):(bif Zr k then bif lY k n then bif LS k o then bif uD o k then bif Zb k then bif uJ k n then bif decide (Zc k<List.length (dX o)) then bif X7 o k then∃(a:aw) (b:aw),[P.d (D.agg (A4 o k)),P.d (D.agg (X6 o k))]=AY a b/\Zx/\ ∀(r:Bool),r=l7 a b->bif r then bif Zb k then bif Zb k then bif uJ k n then bif decide (Zc k<List.length (dX o)) then bif X7 o k then bif lY k n then bif LS k o then bif uD o k then bif lY k n then bif LS k o then bif uD o k then bif uJ k n then bif decide (Zc k<List.length (Zcw o k)) then bif cx PR (30:TypeId) (D.nth (Zcw o k) (Zc k)) then bif Zb k then ae (PX.normal,S.mk 84 (s7 h::xG g::zz::(7,P.sl 1 0 n)::qt i::Tt k) [w9 x,(1,En.mk 0 none (Obj.arr (30:TypeId) false (List.set (Zcw o k) (Zc k) (D.aV (D.agg [D.int .i64 (D.aj (D.ar (D.nth (Zcw o k) (Zc k)) 0)),D.int .i64 (D.aj (D.ar (D.nth (Zcw o k) (Zc k)) 1))]) (A4 o k)))))]) else False else False else False else False else False else False else False else False else False else False else False else False else False else False else False else ae (PX.exit 2,S.mk 84 (s7 h::xG g::zz::(7,P.sl 1 0 n)::Ka i) (Zcx x o)) else False else False else False else False else False else False else False else ae (PX.exit 2,S.mk 84 (s7 h::xG g::zz::(7,P.sl 1 0 n)::Ka i) (Zcx x o)))=(aD [(14,nC)] [] 79 8 (qa1 h g x o n i k)) ae:=by kernel_rfl
def Vd:S->K (PX×S):=λst ae=> ∃h g x o y n i k,st=qa1 h g x (o++[y]) n i k/\(k=(o.length:Int)/\n=o.length+1/\o.length<=1000000)/\ ∀o',o'=cJ l7 o y->ae (.exit 2,of9 h g x o' i)
def Zcz(o:List aw)(h:List bj)(i:Int):Nat:=dR o+List.length [D.agg (Z8n h i)]
def Zcy(i:Int)(ae:PX×S->Prop)(h:List bj)(g:List bj)(o:List aw)(x:av):Prop:=bif Zj i then ae (PX.normal,S.mk 84 (s7 h::xG g::zz::(7,P.sl 1 0 (dR o))::oL i) (Zcx x o)) else False
theorem Ve(h g:List bj)(x:av)(o:List aw)(i:Int)(ae:PX×S->Prop):(bif Y6 i h then bif Oj i h then bif Oi h i then bif !(D.aj (D.ar (zC h i) 0)==Prod.fst x&&(D.aj (D.ar (zC h i) 1)==im x&&true)&&(D.aj (D.ar (zC h i) 2)==gU x&&true)) then Zcy i ae h g o x else bif Oj i h then bif Oi h i then∃(l:List bj) (aK:bj),Z8o g h i l aK/\Zx/\Ci l/\ ∀(b:Bool),b=decide (aK∈l)->bif b then Zcy i ae h g o x else bif Oj i h then bif Oi h i then∃(l:List aw) (x_2:aw),[Al o,P.d (D.agg (Z8n h i))]=Al l::mP x_2/\EK o=EK l/\mR l/\ ∀(b:Bool),Ib b l x_2->bif b then bif Zj i then ae (PX.normal,S.mk 84 (s7 h::xG g::zz::(7,P.sl 1 0 (dR o))::oL i) (Zcx x l)) else False else bif Oj i h then bif Oi h i then bif Nat.ble (dR o) (List.length (dX l))&&aO (Zcz o h i) 16 then bif decide (Z9<=(↑(Zcz o h i):Int)-(1:Int)/\(↑(Zcz o h i):Int)-(1:Int)<=Za) then∃(rl:List bj) (aT:List bj) (x_3:av) (aP:List aw) (y:aw) (n:Nat) (aI:Int) (k:Int),S.mk 84 [s7 h,xG g,zz,(7,P.sl 1 0 (Zcz o h i)),qt i,(9,P.d (D.int .i64 ((↑(Zcz o h i):Int)-(1:Int))))] [w9 x,(1,En.mk 0 none (Obj.arr (30:TypeId) false (List.take (dR o) (dX l)++[D.agg (Z8n h i)])))]=S.mk 84 [s7 rl,xG aT,zz,(7,P.sl 1 0 n),qt aI,H2 k] [w9 x_3,(1,En.mk 0 none (Obj.arr (30:TypeId) false (List.map bh (aP++[y]))))]/\(k=(↑(dR aP):Int)/\n=dR aP+1/\mR aP)/\ ∀(o':List aw),o'=cJ l7 aP y->Zcy aI ae rl aT o' x_3 else False else False else False else False else False else False else False else False else False else False else ae (PX.exit 0,S.mk 84 [(7,Al o)] (N2 o)))=(aD [(92,TA),(42,Hh)] [(8,ah (aL 79 8) Vd)] 79 3 (of9 h g x o i)) ae:=by kernel_rfl
def qfj:S->K (PX×S):=λs ae=> ∃h g x,s=of9 h g x [] 0/\(h.length<=1000000/\g.length<=1000000)/\ ∀o,o=tR h g x->ae (.exit 0,⟨84,[(7,.sl 0 0 o.length)],[(0,⟨0,none,mA false o⟩)]⟩)
def ZcA(h:List bj)(g:List bj)(x:av):S:=S.mk 84 (s7 h::xG g::zz::(7,uI)::Ec) [w9 x,(1,w8)]
theorem qic(h g:List bj)(x:av)(ae:P×List (Nat×En)->Prop):(∃(rl:List bj) (aT:List bj) (aK:av),ZcA h g x=ZcA rl aT aK/\(Ci rl/\Ci aT)/\ ∀(o:List aw),o=tR rl aT aK->ae (Al o,N2 o))=(aJ [] [(3,ah (aL 79 3) qfj)] 79 [ji h,ji g,.d (bH x)] []) ae:=by kernel_rfl
def qfk:bm:=λps R ae=> ∃h g x,ps=[ji h,ji g,.d (bH x)]/\R=[]/\(h.length<=1000000/\g.length<=1000000)/\ ∀o,o=tR h g x->ae (.sl 0 0 o.length,[(0,⟨0,none,mA false o⟩)])
abbrev el9(l:List bS)(o:List gS)(i:Int):S:=⟨86,[(0,Ks l),(3,.sl 0 0 o.length),(4,iD i)],[(0,⟨0,none,xb false o⟩)]⟩
abbrev Vf(l:List bS)(o:List gS)(p:List (List UInt8))(a:av)(i k:Int):S:=⟨86,[(0,Ks l),(3,.sl 0 0 o.length),(4,iD i),(5,.sl 1 0 p.length),(7,.ref 2 0 0),(8,iD k)],[(0,⟨0,none,xb false o⟩),(1,⟨0,none,qaZ false p⟩),(2,⟨0,none,vH a⟩)]⟩
abbrev qfl(l:List bS)(o:List gS)(p:List (List UInt8))(a x:av)(h:Bool)(i k j:Int):S:=⟨86,[(0,Ks l),(3,.sl 0 0 o.length),(4,iD i),(5,.sl 1 0 p.length),(7,.ref 2 0 0),(8,iD k),(9,.ref 3 0 0),(10,.d (.bool h)),(11,iD j)],[(0,⟨0,none,xb false o⟩),(1,⟨0,none,qaZ false p⟩),(2,⟨0,none,vH a⟩),(3,⟨0,none,vH x⟩)]⟩
def vI(o:List gS):Nat×En:=(0,En.mk 0 none (Obj.arr (112:TypeId) false (List.map lT o)))
def ZcH(o:List gS)(p:List (List UInt8))(a:av)(x:av):List (Nat×En):=[vI o,Lo p,(2,pq a),(3,pq x)]
def ZcF:Nat×P:=(9,P.ref 3 0 0)
def Ig:Nat×P:=(7,s6)
def Kt(p:List (List UInt8)):Nat×P:=(5,P.sl 1 0 (List.length p))
def EW(o:List gS):Nat×P:=(3,P.sl 0 0 (List.length o))
def Ct(l:List bS):Nat×P:=(0,P.d (D.sl 7 (List.map lT l)))
theorem Vg(l:List bS)(o:List gS)(p:List (List UInt8))(a x:av)(h:Bool)(i k j:Int)(ae:PX×S->Prop):(bif decide (j<(↑(List.length o):Int)) then bif h then bif Zj j then ae (PX.normal,S.mk 86 (Ct l::EW o::nP i::Kt p::Ig::qt k::ZcF::(10,ZO)::Z4M j) (ZcH o p a x)) else False else bif decide ((0:Int)<=j/\j<(↑(List.length o):Int)) then bif decide (Zg j<List.length (List.map lT o)) then bif cx PR (112:TypeId) (D.nth (List.map lT o) (Zg j)) then bif Zj j then ae (PX.normal,S.mk 86 (Ct l::EW o::nP i::Kt p::Ig::qt k::ZcF::(10,P.d (D.bool (D.aj (D.ar (D.nth (List.map lT o) (Zg j)) 0)==Prod.fst x&&(D.aj (D.ar (D.nth (List.map lT o) (Zg j)) 1)==im x&&true)&&(D.aj (D.ar (D.nth (List.map lT o) (Zg j)) 2)==gU x&&true))))::Z4M j) (ZcH o p a x)) else False else False else False else False else ae (PX.exit 4,S.mk 86 [Ct l,EW o,nP i,Kt p,Ig,qt k,ZcF,(10,fI h)] (ZcH o p a x)))=(aD [] [] 107 13 (qfl l o p a x h i k j)) ae:=by kernel_rfl
def Vh:S->K (PX×S):=λs ae=> ∃l o p a x h i k,s=qfl l o p a x h i k 0/\o.length<=1000000/\ ∀b,b=(h ||o.any λe=>e.1==x)->ae (.exit 4,⟨86,[(0,Ks l),(3,.sl 0 0 o.length),(4,iD i),(5,.sl 1 0 p.length),(7,.ref 2 0 0),(8,iD k),(9,.ref 3 0 0),(10,.d (.bool b))],[(0,⟨0,none,xb false o⟩),(1,⟨0,none,qaZ false p⟩),(2,⟨0,none,vH a⟩),(3,⟨0,none,vH x⟩)]⟩)
def ZcK(x:av)(k7:av)(mB:List (List UInt8))(bW:Int):List D:=[D.agg [gK x,gJ x,gT x,gK k7,gJ k7,gT k7,D.str (D.eO (D.nth (List.map D.str mB) (Zg bW)))]]
def Bg(l:List bS)(i:Int):D:=D.nth (List.map lT l) (Zg i)
def ZcI(i:Int)(l:List bS):Bool:=decide ((0:Int)<=i/\i<(↑(List.length (List.map lT l)):Int))
theorem Vi(l:List bS)(o:List gS)(p:List (List UInt8))(a:av)(i k:Int)(ae:PX×S->Prop):(bif decide (k<(↑(List.length p):Int)) then bif ZcI i l then bif cx PR (165:TypeId) (Bg l i) then bif ZcI i l then bif cx PR (165:TypeId) (Bg l i) then bif decide (Z9<=D.aj (D.ar (Bg l i) 5)+k/\D.aj (D.ar (Bg l i) 5)+k<=Za) then∃(au:List bS) (aP:List gS) (mB:List (List UInt8)) (k7:av) (x:av) (h:Bool) (aI:Int) (bW:Int),S.mk 86 (Ct l::EW o::nP i::Kt p::Ig::qt k::ZcF::(10,P.d (D.bool (D.aj (D.ar (Bg l i) 3)==(0:Int)&&(D.aj (D.ar (Bg l i) 4)==(0:Int)&&true)&&(D.aj (D.ar (Bg l i) 5)+k==(0:Int)&&true))))::Z50) [vI o,Lo p,(2,pq a),(3,En.mk 0 none (Obj.box (50:TypeId) [P.d (D.int .i64 (D.aj (D.ar (Bg l i) 3))),P.d (D.int .i64 (D.aj (D.ar (Bg l i) 4))),P.d (D.int .i64 (D.aj (D.ar (Bg l i) 5)+k))]))]=S.mk 86 (Ct au::EW aP::nP aI::Kt mB::Ig::qt bW::ZcF::(10,fI h)::Z50) (ZcH aP mB k7 x)/\List.length aP<=1000000/\ ∀(b:Bool),b=(h ||List.any aP λ(e:gS)=>Prod.fst e==x)->bif ju b then bif decide ((0:Int)<=bW/\bW<(↑(List.length mB):Int)) then bif decide (Zg bW<List.length (List.map D.str mB)) then bif cx PR (9:TypeId) (D.nth (List.map D.str mB) (Zg bW)) then bif Nat.ble (List.length aP) (List.length (List.map lT aP))&&aO (List.length aP+List.length (ZcK x k7 mB bW)) 64 then bif Zj bW then ae (PX.normal,S.mk 86 (Ct au::(3,P.sl 0 0 (List.length aP+List.length (ZcK x k7 mB bW)))::nP aI::Kt mB::Ig::oL bW) ((0,En.mk 0 none (Obj.arr (112:TypeId) false (List.take (List.length aP) (List.map lT aP)++ZcK x k7 mB bW)))::Lo mB::YP x)) else False else False else False else False else False else bif Zj bW then ae (PX.normal,S.mk 86 (Ct au::EW aP::nP aI::Kt mB::Ig::oL bW) (vI aP::Lo mB::YP x)) else False else False else False else False else False else False else ae (PX.exit 2,S.mk 86 (Ct l::EW o::A6 i) [vI o]))=(aD [] [(13,ah (aL 107 13) Vh)] 107 8 (Vf l o p a i k)) ae:=by kernel_rfl
def Vj:S->K (PX×S):=λs ae=> ∃l o p r i,s=Vf l o p r.1 i 0/\(0<=i/\i<l.length/\l.length<=1000000/\p.length<=100000/\o.length+p.length<=1000000/\(0<=r.2.1.2.2/\r.2.1.2.2<=1000000000000))/\AtR l i r/\ ∀o',o'=Mm r o p->ae (.exit 2,el9 l o' i)
def ZcN(aI:Int)(au:List bS)(p:List (List UInt8))(aP:List gS)(r:bS)(ae:PX×S->Prop):Prop:=((0:Int)<=aI/\aI<(↑(List.length au):Int)/\List.length au<=1000000/\List.length p<=100000/\List.length aP+List.length p<=1000000/\(0:Int)<=Prod.snd (Prod.snd (Prod.fst (Prod.snd r)))/\Prod.snd (Prod.snd (Prod.fst (Prod.snd r)))<=(1000000000000:Int))/\AtR au aI r/\ ∀(o':List gS),o'=Mm r aP p->bif Zj aI then ae (PX.normal,S.mk 86 (Ct au::EW o'::ua aI) [vI o']) else False
def ZcM(au:List bS)(aP:List gS)(aI:Int)(p:List (List UInt8))(r:bS):S:=S.mk 86 (Ct au::EW aP::nP aI::Kt p::Ig::Ec) [vI aP,Lo p,(2,En.mk 0 none (Obj.box (50:TypeId) [P.d (D.int .i64 (Prod.fst (Prod.fst r))),P.d (D.int .i64 (Prod.fst (Prod.snd (Prod.fst r)))),P.d (D.int .i64 (Prod.snd (Prod.snd (Prod.fst r))))]))]
def ZcL(l:List bS)(i:Int):List (Nat×En):=[(2,En.mk 0 none (Obj.box (50:TypeId) [P.d (D.int .i64 (D.aj (D.ar (Bg l i) 0))),P.d (D.int .i64 (D.aj (D.ar (Bg l i) 1))),P.d (D.int .i64 (D.aj (D.ar (Bg l i) 2)))]))]
theorem Vk(l:List bS)(o:List gS)(i:Int)(ae:PX×S->Prop):(bif decide (i<(↑(List.length (List.map lT l)):Int)) then bif ZcI i l then bif cx PR (165:TypeId) (Bg l i) then∃(s:List UInt8),[P.d (D.str (D.eO (D.ar (Bg l i) 6)))]=wu s/\Zx/\HR s/\(RJ s->bif ZcI i l then bif cx PR (165:TypeId) (Bg l i) then∃(au:List bS) (aP:List gS) (p:List (List UInt8)) (r:bS) (aI:Int),S.mk 86 (Ct l::EW o::nP i::(5,uI)::Ig::Ec) (vI o::(1,Z1Q)::ZcL l i)=ZcM au aP aI p r/\ZcN aI au p aP r ae else False else False)/\(RI s-> ∀(aP:List (List UInt8)),aP=HT s->bif ZcI i l then bif cx PR (165:TypeId) (Bg l i) then∃(au:List bS) (Bf:List gS) (p:List (List UInt8)) (r:bS) (aI:Int),S.mk 86 (Ct l::EW o::nP i::Kt aP::Ig::Ec) (vI o::Lo aP::ZcL l i)=ZcM au Bf aI p r/\ZcN aI au p Bf r ae else False else False) else False else False else ae (PX.exit 0,S.mk 86 [EW o] [vI o]))=(aD [(144,tZ)] [(8,ah (aL 107 8) Vj)] 107 3 (el9 l o i)) ae:=by kernel_rfl
def mT(l:List bS):Prop:=l.length<=1000000/\Ie l<=1000000/\ ∀r∈l,r.2.2.length<=100000/\0<=r.2.1.2.2/\r.2.1.2.2<=1000000000000
def qfm:S->K (PX×S):=λs ae=> ∃l,s=el9 l [] 0/\mT l/\ ∀o,o=Hv l->ae (.exit 0,⟨86,[(3,.sl 0 0 o.length)],[(0,⟨0,none,xb false o⟩)]⟩)
def ZcO(l:List bS):S:=S.mk 86 (Ct l::SE) [(0,En.mk 0 none (Obj.arr (112:TypeId) false []))]
theorem qid(l:List bS)(ae:P×List (Nat×En)->Prop):(∃(au:List bS),ZcO l=ZcO au/\mT au/\ ∀(o:List gS),o=Hv au->ae (P.sl 0 0 (List.length o),[vI o]))=(aJ [] [(3,ah (aL 107 3) qfm)] 107 [Ks l] []) ae:=by kernel_rfl
def qfn:bm:=λps R ae=> ∃l,ps=[Ks l]/\R=[]/\mT l/\ ∀o,o=Hv l->ae (.sl 0 0 o.length,[(0,⟨0,none,xb false o⟩)])
abbrev es9(l:List gS)(o:List av)(i:Int):S:=⟨64,[(5,.sl 0 0 l.length),(6,.sl 1 0 o.length),(7,iD i)],[(0,⟨0,none,xb false l⟩),(1,⟨0,none,iH false o⟩)]⟩
abbrev qa2(l:List gS)(o:List av)(n:Nat)(i k:Int):S:=⟨64,[(5,.sl 0 0 l.length),(6,.sl 1 0 n),(7,iD i),(8,iD k)],[(0,⟨0,none,xb false l⟩),(1,⟨0,none,iH false o⟩)]⟩
def Wy(l:List gS):Nat×P:=(5,P.sl 0 0 (List.length l))
def ZcQ(ae:PX×S->Prop)(l:List gS)(n:Nat)(i:Int)(o:List av):Prop:=ae (PX.exit 2,S.mk 64 [Wy l,J6 n,qU i] [vI l,(1,H4 o)])
theorem qfo(l:List gS)(o:List av)(n:Nat)(i k:Int)(ae:PX×S->Prop):(bif Zr k then bif lY k n then bif TE k o then bif xv o k then bif Zb k then bif uJ k n then bif Z8f k o then bif Pd o k then∃(t:Int) (r:Int) (aI:Int) (t':Int) (r':Int) (i':Int),[P.d (D.agg (NN o k)),P.d (D.agg (V7 o k))]=Tm t r aI t' r' i'/\Zx/\bif Tk t r aI t' r' i' then bif Zb k then bif Zb k then bif uJ k n then bif Z8f k o then bif Pd o k then bif lY k n then bif TE k o then bif xv o k then bif lY k n then bif TE k o then bif xv o k then bif uJ k n then bif decide (Zc k<List.length (Wg o k)) then bif cx PR (50:TypeId) (D.nth (Wg o k) (Zc k)) then bif Zb k then ae (PX.normal,S.mk 64 (Wy l::J6 n::qU i::Z8i k) [vI l,(1,Z8j o k)]) else False else False else False else False else False else False else False else False else False else False else False else False else False else False else False else ZcQ ae l n i o else False else False else False else False else False else False else False else ZcQ ae l n i o)=(aD [(88,jc)] [] 80 8 (qa2 l o n i k)) ae:=by kernel_rfl
def Vl:S->K (PX×S):=λst ae=> ∃l o x n i k,st=qa2 l (o++[x]) n i k/\(k=(o.length:Int)/\n=o.length+1/\o.length<=1000000)/\ ∀o',o'=cJ mO o x->ae (.exit 2,es9 l o' i)
def ZcR(l:List gS)(i:Int):List D:=[D.agg [D.int .i64 (D.aj (D.ar (D.nth (List.map lT l) (Zg i)) 0)),D.int .i64 (D.aj (D.ar (D.nth (List.map lT l) (Zg i)) 1)),D.int .i64 (D.aj (D.ar (D.nth (List.map lT l) (Zg i)) 2))]]
def ZcS(o:List av)(l:List gS)(i:Int):Int:=(↑(iq o+List.length (ZcR l i)):Int)-(1:Int)
theorem Vm(l:List gS)(o:List av)(i:Int)(ae:PX×S->Prop):(bif decide (i<(↑(List.length l):Int)) then bif decide ((0:Int)<=i/\i<(↑(List.length l):Int)) then bif decide (Zg i<List.length (List.map lT l)) then bif cx PR (112:TypeId) (D.nth (List.map lT l) (Zg i)) then bif Nat.ble (iq o) (qf o)&&aO (iq o+List.length (ZcR l i)) 24 then bif decide (Z9<=ZcS o l i/\ZcS o l i<=Za) then∃(au:List gS) (aP:List av) (x:av) (n:Nat) (aI:Int) (k:Int),S.mk 64 [Wy l,(6,P.sl 1 0 (iq o+List.length (ZcR l i))),qU i,(8,P.d (D.int .i64 (ZcS o l i)))] [vI l,(1,En.mk 0 none (Obj.arr (50:TypeId) false (List.take (iq o) (gD o)++ZcR l i)))]=S.mk 64 (Wy au::J6 n::qU aI::Ka k) [vI au,(1,Z8u aP x)]/\(k=xa aP/\n=iq aP+1/\qp aP)/\ ∀(o':List av),o'=cJ mO aP x->bif Zj aI then ae (PX.normal,S.mk 64 (Wy au::(6,P.sl 1 0 (iq o'))::ZL aI) [vI au,(1,H4 o')]) else False else False else False else False else False else False else ae (PX.exit 0,S.mk 64 [(6,rk o)] (vA o)))=(aD [] [(8,ah (aL 80 8) Vl)] 80 4 (es9 l o i)) ae:=by kernel_rfl
def qfp:S->K (PX×S):=λs ae=> ∃l,s=es9 l [] 0/\l.length<=1000000/\ ∀o,o=cp mO (l.map (·.1))->ae (.exit 0,⟨64,[(6,.sl 0 0 o.length)],[(0,⟨0,none,iH false o⟩)]⟩)
def ZcT(o:List gS):S:=S.mk 64 (Wy o::Z7V) [vI o,(1,Ma)]
theorem qie(l:List ak)(x:av)(ae:P×List (Nat×En)->Prop):(∃(au:List ak) (aK:av),cS l::jf x=cS au::jf aK/\Zx/\Zcv au/\ ∀(o:List bS),o=fG au aK-> ∃(l:List bS),[P.d (D.sl 7 (List.take (List.length o) (List.map lT o)))]=[P.d (D.sl 7 (List.map lT l))]/\Zx/\mT l/\ ∀(o:List gS),o=Hv l-> ∃(l:List gS),ZcT o=ZcT l/\List.length l<=1000000/\ ∀(o:List av),o=cp mO (List.map (λ(x:gS)=>Prod.fst x) l)->ae (rk o,vA o))=(aJ [(59,qfh),(107,qfn)] [(4,ah (aL 80 4) qfp)] 80 [bC l,.d (bH x)] []) ae:=by kernel_rfl
def qfq:bm:=λps R ae=> ∃l x,ps=[bC l,.d (bH x)]/\R=[]/\(l.length<=1000000/\dq l<=1000/\mT (fG l x))/\ ∀o,o=Kr l x->ae (.sl 0 0 o.length,[(0,⟨0,none,iH false o⟩)])
abbrev knH(l:List ak)(v:List Int)(o:List ak)(i:Int):S:=⟨35,[(0,bC l),(1,vD v),(5,.sl 0 0 o.length),(6,iD i)],[(0,⟨0,none,kV false o⟩)]⟩
theorem qcb(l:List ak)(v:List Int)(o:List ak)(i:Int)(ae:PX×S->Prop):(bif qP i l then bif kL i l then bif cK l i then bif kL i l then bif cK l i then∃(au:List Int) (r:Int),[Zk v,P.d (my l i)]=Zk au::Zv r/\Zx/\Zz au/\bif decide (xw l i<=eB au r) then bif kL i l then bif cK l i then bif Pm o l i then bif Zj i then ae (PX.normal,S.mk 35 (fE l::Zm v::(5,P.sl 0 0 (Cb o l i))::ZA i) [(0,Pk o l i)]) else False else False else False else False else bif Zj i then ae (PX.normal,S.mk 35 (fE l::Zm v::(5,kW o)::ZA i) (ud o)) else False else False else False else False else False else ae (PX.exit 0,S.mk 35 [(5,kW o)] (ud o)))=(aD [(13,V1)] [] 48 3 (knH l v o i)) ae:=by kernel_rfl
def gKn:S->K (PX×S):=λs ae=> ∃l v,s=knH l v [] 0/\(l.length<=1000000/\v.length<=1000000)/\ ∀o,o=aU l v->ae (.exit 0,⟨35,[(5,.sl 0 0 o.length)],[(0,⟨0,none,kV false o⟩)]⟩)
theorem qj0(l:List ak)(v:List Int)(ae:P×List (Nat×En)->Prop):(∃(au:List ak) (cI:List Int),S.mk 35 (fE l::Zm v::TJ) Z5l=S.mk 35 (fE au::Zm cI::TJ) Z5l/\(iR au/\wW cI)/\ ∀(o:List ak),o=aU au cI->ae (kW o,ud o))=(aJ [] [(3,ah (aL 48 3) gKn)] 48 [bC l,vD v] []) ae:=by kernel_rfl
def hKn:bm:=λps R ae=> ∃l v,ps=[bC l,vD v]/\R=[]/\(l.length<=1000000/\v.length<=1000000)/\ ∀o,o=aU l v->ae (.sl 0 0 o.length,[(0,⟨0,none,kV false o⟩)])
abbrev Vn(l:List ak)(t i:Int):S:=⟨20,[(0,bC l),(3,iD t),(4,iD i)],[]⟩
theorem qcc(l:List ak)(t i:Int)(ae:PX×S->Prop):(bif qP i l then bif kL i l then bif cK l i then bif Zj i then ae (PX.normal,S.mk 20 (fE l::(3,P.d (D.int .i64 (max t (D.aj (D.ar (fJ l i) 0)))))::ua i) []) else False else False else False else ae (PX.exit 0,S.mk 20 (Zu t) []))=(aD [] [] 49 3 (Vn l t i)) ae:=by kernel_rfl
def Vo:S->K (PX×S):=λs ae=> ∃l,s=Vn l 0 0/\l.length<=1000000/\ ∀t,t=mY l->ae (.exit 0,⟨20,[(3,iD t)],[]⟩)
def ZcU(l:List ak):S:=S.mk 20 (fE l::(3,P.d Z7)::JU) []
theorem qj1(l:List ak)(ae:P×List (Nat×En)->Prop):(∃(au:List ak),ZcU l=ZcU au/\iR au/\ ∀(t:Int),t=mY au->ae (P.d (Zt t),[]))=(aJ [] [(3,ah (aL 49 3) Vo)] 49 [bC l] []) ae:=by kernel_rfl
def Vp:bm:=λps R ae=> ∃l,ps=[bC l]/\R=[]/\l.length<=1000000/\ ∀t,t=mY l->ae (iD t,[])
abbrev ndH(l:List ak)(b:Bool)(o:List av)(i:Int):S:=⟨60,[(0,bC l),(1,.d (.bool b)),(5,.sl 0 0 o.length),(6,iD i)],[(0,⟨0,none,iH false o⟩)]⟩
abbrev ndI(l:List ak)(b:Bool)(o:List av)(i k:Int):S:=⟨60,[(0,bC l),(1,.d (.bool b)),(5,.sl 0 0 o.length),(6,iD i),(7,iD k)],[(0,⟨0,none,iH false o⟩)]⟩
def Pw(b:Bool):Nat×P:=(1,fI b)
def ZcX(k:Int)(ae:PX×S->Prop)(l:List ak)(b:Bool)(o:List av)(i:Int):Prop:=bif Zj k then ae (PX.normal,S.mk 60 (fE l::Pw b::(5,rk o)::ZK i::ZL k) (vA o)) else False
def ZcV(l:List ak)(i:Int)(k:Int):List D:=[D.agg [Zb7 l i k,Zb8 l i k,Zb9 l i k]]
theorem qcd(l:List ak)(b:Bool)(o:List av)(i k:Int)(ae:PX×S->Prop):(bif kL i l then bif cK l i then bif decide (k<OB l i) then bif kL i l then bif cK l i then bif H7 k l i then bif H6 l i k then bif H5 l i k==(0:Int) then bif kL i l then bif cK l i then bif H7 k l i then bif H6 l i k then bif D.ff (D.ar (lS l i k) 8)==b then bif kL i l then bif cK l i then bif H7 k l i then bif H6 l i k then bif Nat.ble (iq o) (qf o)&&aO (iq o+List.length (ZcV l i k)) 24 then bif Zj k then ae (PX.normal,S.mk 60 (fE l::Pw b::(5,P.sl 0 0 (iq o+List.length (ZcV l i k)))::ZK i::ZL k) [(0,En.mk 0 none (Obj.arr (50:TypeId) false (List.take (iq o) (gD o)++ZcV l i k)))]) else False else False else False else False else False else False else ZcX k ae l b o i else False else False else False else False else ZcX k ae l b o i else False else False else False else False else ae (PX.exit 2,S.mk 60 (fE l::Pw b::(5,rk o)::Cj i) (vA o)) else False else False)=(aD [] [] 76 6 (ndI l b o i k)) ae:=by kernel_rfl
def qfr:S->K (PX×S):=λs ae=> ∃(l:List ak) (b:Bool) (o:List av) (i:Int) (g:ak),AtG l i g/\s=ndI l b o i 0/\(0<=i/\i<l.length/\o.length+g.ops.length<=1000000)/\ ∀o',o'=o++sT b g.ops->ae (.exit 2,ndH l b o' i)
theorem qce(l:List ak)(b:Bool)(o:List av)(i:Int)(ae:PX×S->Prop):(bif qP i l then∃(au:List ak) (Tr:Bool) (aP:List av) (aI:Int) (g:ak),AtG au aI g/\S.mk 60 (fE l::Pw b::(5,rk o)::ZK i::sw) (vA o)=S.mk 60 (fE au::Pw Tr::(5,rk aP)::ZK aI::sw) (vA aP)/\((0:Int)<=aI/\aI<gX au/\iq aP+List.length (ak.ops g)<=1000000)/\ ∀(o':List av),o'=aP++sT Tr (ak.ops g)->bif Zj aI then ae (PX.normal,S.mk 60 (fE au::Pw Tr::(5,rk o')::ZA aI) (vA o')) else False else ae (PX.exit 0,S.mk 60 [(5,rk o)] (vA o)))=(aD [] [(6,ah (aL 76 6) qfr)] 76 3 (ndH l b o i)) ae:=by kernel_rfl
def gNd:S->K (PX×S):=λs ae=> ∃l b,s=ndH l b [] 0/\(l.length<=1000000/\dq l<=1000)/\ ∀o,o=uv b l->ae (.exit 0,⟨60,[(5,.sl 0 0 o.length)],[(0,⟨0,none,iH false o⟩)]⟩)
def ZcY(l:List ak)(b:Bool):S:=S.mk 60 (fE l::Pw b::TJ) [(0,Ma)]
theorem qj2(l:List ak)(b:Bool)(ae:P×List (Nat×En)->Prop):(∃(au:List ak) (Tr:Bool),ZcY l b=ZcY au Tr/\Zcv au/\ ∀(o:List av),o=uv Tr au->ae (rk o,vA o))=(aJ [] [(3,ah (aL 76 3) gNd)] 76 [bC l,.d (.bool b)] []) ae:=by kernel_rfl
def qfs:bm:=λps R ae=> ∃l b,ps=[bC l,.d (.bool b)]/\R=[]/\(l.length<=1000000/\dq l<=1000)/\ ∀o,o=uv b l->ae (.sl 0 0 o.length,[(0,⟨0,none,iH false o⟩)])
theorem qj3(a b:List av)(ae:P×List (Nat×En)->Prop):(bif Nat.ble 0 0&&aO (0+qf a) 24 then bif Nat.ble (0+qf a) (List.length ([]++gD a))&&aO (0+qf a+qf b) 24 then ae (P.sl 0 0 (0+qf a+qf b),[(0,En.mk 0 none (Obj.arr (50:TypeId) false (List.take (0+qf a) ([]++gD a)++gD b)))]) else False else False)=(aJ [] [] 78 [cX a,cX b] []) ae:=by kernel_rfl
def hJn:bm:=λps R ae=> ∃a b,ps=[cX a,cX b]/\R=[]/\(a.length<=1000000/\b.length<=1000000)/\ ∀o,o=a++b->ae (.sl 0 0 o.length,[(0,⟨0,none,iH false o⟩)])
theorem HB{l:List ak}{v:List Int}{i:Nat}(h:i<l.length):aU (l.take (i+1)) v=if l[i].n<=eB v l[i].s.2 then aU (l.take i) v++[l[i]] else aU (l.take i) v:=by
 unfold aU;rw[zag h,zcp];by_cases hc:l[i].n<=eB v l[i].s.2
 ·rw[zao hc,zdh (by simpa using hc)];rfl
 rw[zal hc,zdi (by simpa using hc),List.filter_nil,zbe]
theorem Ku(l:List ak)(v:List Int):(aU l v).length<=l.length:=zaU _ _
section
variable{X:XF}
theorem qft:LD X 48 3 (ah (aL 48 3) gKn):=LD.idx (H:=[(13,V1)]) (hk:=[]) (by kernel_rfl) (by kernel_rfl) (.cons Gp .nil) .nil
 (A:=List ak×List Int) (B:=List ak) (λa o i=>knH a.1 a.2 o i) (λa=>a.1.length) (λa i o=>(a.1.length<=1000000/\a.2.length<=1000000)/\o=aU (a.1.take i) a.2)
 (λa x=>x=(.exit 0,⟨35,[(5,.sl 0 0 (aU a.1 a.2).length)],[(0,⟨0,none,kV false (aU a.1 a.2)⟩)]⟩))
 (by
  rintro⟨l,v⟩ o i ae h0 bR aY ⟨hl,gg⟩ hn ho
  try dsimp only at*
  (rw[<-qcb];delta cr kz uF ud dA kW Zg fJ xw my nO wB Pk Zn ZA Cb Zk Zm cS fE Za Z9 Zj eD Pm Zy Zz Zx Zt Zv cK kL qP)
  have e1:D.nth (l.map aQ) i.toNat=aQ l[i.toNat]:=ay _ _ _ aY;have lX:o.length<=l.length:=by rw[gg];exact zaG (Ku _ _) (by rw[zay];exact Nat.min_le_right _ _)
  have hk:=HB (v:=v) aY;rw[<-gg] at hk;have gq:i<((l.map aQ).length:Int):=by rw[zaa];exact bR
  have vz:i.toNat<(l.map aQ).length:=by rw[zaa];exact aY
  rw[e1];generalize l[i.toNat]=g at*
  have kQ:=cY g;have t2:D.agg [D.int .i64 (D.aj (D.ar (aQ g) 0)),D.int .i64 (D.aj (D.ar (aQ g) 1)),D.int .i64 g.n,D.sl 1 (D.dy (D.ar (aQ g) 3)),D.int .i64 (D.aj (D.ar (aQ g) 4)),D.int .i64 (D.aj (D.ar (aQ g) 5)),D.sl 18 (D.dy (D.ar (aQ g) 6))]=aQ g:=rfl;have u2:D.aj (D.ar (aQ g) 2)=g.n:=rfl;refine fT (zaP gq) (ao ⟨h0,gq⟩ (aq kQ (ao ⟨h0,gq⟩ (aq kQ ⟨v,g.s.2,rfl,rfl,by omega,?_⟩))));rw[u2];refine b7 (λhc=>ao ⟨h0,gq⟩ (aq kQ (aq ?_ (ao (by omega) ?_)))) λhc=>ao (by omega) ?_
  ·rw[zab];exact⟨by simp,ct (by omega) (by omega)⟩
  ·have:=hn (o++[g]) ⟨hl,by rw[hk,zao hc]⟩;rw[t2,cw];simp only[knH,zan,zap,zat,zaF] at this;exact this
  exact hn o ⟨hl,by rw[hk,zal hc]⟩)
 (by
  rintro⟨l,v⟩ o i ae hi ⟨hl,gg⟩ ho
  try dsimp only at*
  (rw[<-qcb];delta cr kz uF ud dA kW Zg fJ xw my nO wB Pk Zn ZA Cb Zk Zm cS fE Za Z9 Zj eD Pm Zy Zz Zx Zt Zv cK kL qP)
  have gq: ¬i<((l.map aQ).length:Int):=by rw[zaa];omega
  rw[zaj] at gg;refine lD (zaN gq) (ho _ (λh=>by cases h) ?_);rw[gg])
 (by rintro s ae ⟨l,v,rfl,hl,hp⟩;refine⟨(l,v),[],rfl,⟨hl,rfl⟩,?_⟩;rintro x rfl;exact hp _ rfl)
theorem qj4:FD X 48 hKn:=FD.mk (H:=[]) (hk:=[(3,ah (aL 48 3) gKn)]) (by kernel_rfl) .nil (.cons qft .nil) (by
 intro ps R ae hh;obtain⟨l,v,rfl,rfl,hl,hp⟩:=hh
 (rw[<-qj0];delta cr kz uF ud dA kW wW iR LI Z5l Z7 Ed ZQ TJ Zk Zm cS fE)
 exact⟨l,v,rfl,hl,λo ho=>hp o ho⟩)
theorem Vq:LD X 49 3 (ah (aL 49 3) Vo):=LD.idx (H:=[]) (hk:=[]) (by kernel_rfl) (by kernel_rfl) .nil .nil
 (A:=List ak) (B:=Int) (λl t i=>Vn l t i) (λl=>l.length) (λl i t=>l.length<=1000000/\t=mY (l.take i))
 (λl x=>x=(.exit 0,⟨20,[(3,iD (mY l))],[]⟩))
 (by
  rintro l t i ae h0 bR aY ⟨hl,rfl⟩ hn ho
  try dsimp only at*
  (rw[<-qcc];delta Zt Zu Zn ua Zg cr fJ cS fE Za Z9 Zj cK eD kL qP)
  have e1:D.nth (l.map aQ) i.toNat=aQ l[i.toNat]:=ay _ _ _ aY;have hk:=zH aY;have gq:i<((l.map aQ).length:Int):=by rw[zaa];exact bR
  rw[e1];have kQ:=cY l[i.toNat];refine fT (zaP gq) (ao ⟨h0,gq⟩ (aq kQ (ao (by omega) ?_)));have:=hn _ ⟨hl,rfl⟩;rw[hk] at this;exact this)
 (by
  rintro l t i ae hi ⟨hl,ht⟩ ho
  try dsimp only at*
  (rw[<-qcc];delta Zt Zu Zn ua Zg cr fJ cS fE Za Z9 Zj cK eD kL qP)
  have gq: ¬i<((l.map aQ).length:Int):=by rw[zaa];omega
  rw[zaj] at ht;refine lD (zaN gq) (ho _ (λh=>by cases h) ?_);rw[ht])
 (by rintro s ae ⟨l,rfl,hl,hp⟩;refine⟨l,0,rfl,⟨hl,rfl⟩,?_⟩;rintro x rfl;exact hp _ rfl)
theorem qfu:FD X 49 Vp:=FD.mk (H:=[]) (hk:=[(3,ah (aL 49 3) Vo)]) (by kernel_rfl) .nil (.cons Vq .nil) (by
 intro ps R ae hh;obtain⟨l,rfl,rfl,hl,hp⟩:=hh
 (rw[<-qj1];delta Zt dA iR Z7 JU cr cS fE ZcU)
 exact⟨l,rfl,hl,λt ht=>hp t ht⟩)
theorem qj5:FD X 78 hJn:=FD.mk (H:=[]) (hk:=[]) (by kernel_rfl) .nil .nil (by
 intro ps R ae hh;obtain⟨a,b,rfl,rfl,⟨ha,hb⟩,hp⟩:=hh
 (rw[<-qj3];delta gD qf)
 have:=hp (a++b) rfl;have tk:List.take a.length (a.map bH)=a.map bH:=zah (by simp);simp only[zbi,zaF,zaa];rw[tk];refine aq ?_ (aq ?_ ?_)
 ·rw[zab];exact⟨by simp,da (by omega) (by omega)⟩
 ·rw[zab];exact⟨by simp,da (by omega) (by omega)⟩
 rw[<-zaB];rw[zan] at this;exact this)
theorem OT{b:Bool}{l:List aX}{k:Nat}(h:k<l.length):sT b (l.take (k+1))=if l[k].kind=0/\l[k].dir=b then sT b (l.take k)++[l[k].node] else sT b (l.take k):=by
 unfold sT;rw[zag h,zcp];split
 next hc=>rw[zdh (by simp[hc.1,hc.2])];simp
 rename_i hc;rw[zdi (by rw[zab,zaT,zaT];exact hc)];simp
theorem OU{b:Bool}{l:List ak}{i:Nat}(h:i<l.length):uv b (l.take (i+1))=uv b (l.take i)++sT b l[i].ops:=by unfold uv;rw[zag h,zbG];simp
theorem qa3:LD X 76 6 (ah (aL 76 6) qfr):=LD.idx (H:=[]) (hk:=[]) (by kernel_rfl) (by kernel_rfl) .nil .nil
 (A:=List ak×Bool×List av×Int×ak) (B:=List av) (λa o k=>ndI a.1 a.2.1 o a.2.2.2.1 k) (λa=>a.2.2.2.2.ops.length)
 (λa k o=>((0<=a.2.2.2.1/\a.2.2.2.1<a.1.length)/\D.nth (a.1.map aQ) a.2.2.2.1.toNat=aQ a.2.2.2.2/\a.2.2.1.length+a.2.2.2.2.ops.length<=1000000)/\o=a.2.2.1++sT a.2.1 (a.2.2.2.2.ops.take k))
 (λa z=>z=(.exit 2,ndH a.1 a.2.1 (a.2.2.1++sT a.2.1 a.2.2.2.2.ops) a.2.2.2.1))
 (by
  rintro⟨l,b,o0,i,g⟩ o k ae h0 uB dO ⟨⟨hb,hg,hl⟩,ho⟩ hn bt
  try dsimp only at*
  (rw[<-qcd];delta gD H4 vA Zt ZK Cj iq rk Zn ZL fI Pw cr cS fE Za Z9 Zj ZcX Zg fJ lS Zb9 Zb8 Zb7 ZcV qf H5 H6 OB H7 cK eD kL)
  have gq:0<=i/\i<((l.map aQ).length:Int):=by rw[zaa];exact hb
  have u6:D.dy (D.ar (aQ g) 6)=g.ops.map eN:=rfl;have e1:D.nth (g.ops.map eN) k.toNat=eN g.ops[k.toNat]:=ay _ _ _ dO;have mb:=OT (b:=b) dO;have lX:o.length<1000000:=by have:=HA b (g.ops.take k.toNat);rw[zay] at this;rw[ho,zan];omega
  rw[hg,u6,e1];have Kf:0<=k/\k<((g.ops.map eN).length:Int):=by rw[zaa];exact⟨h0,uB⟩
  generalize g.ops[k.toNat]=y at*
  have kQ:=cY g;have tE:=JJ y;have c0:D.aj (D.ar (eN y) 0)=y.kind:=rfl;have c1:D.ff (D.ar (eN y) 8)=y.dir:=rfl;have t2:D.agg [D.int .i64 (D.aj (D.ar (eN y) 1)),D.int .i64 (D.aj (D.ar (eN y) 2)),D.int .i64 (D.aj (D.ar (eN y) 3))]=bH y.node:=rfl;rw[c0,c1,t2,cw];have bX: ¬(y.kind=0/\y.dir=b)->o0++sT b (g.ops.take (k.toNat+1))=o:=λh=>by rw[mb,ho,zal h]
  have dz:y.kind=0->y.dir=b->o0++sT b (g.ops.take (k.toNat+1))=o++[y.node]:=λh1 h2=>by rw[mb,ho,zao ⟨h1,h2⟩,za0]
  refine ao gq (aq kQ (bz Kf.2 (ao gq (aq kQ (ao Kf (aq tE (Ai (λhk=>ao gq (aq kQ (ao Kf (aq tE (az (λhx=>ao gq (aq kQ (ao Kf (aq tE ?_)))) λhx=>ao (by omega) (hn o ⟨⟨hb,hg,hl⟩,(bX (λhh=>by rw[hh.2] at hx;simp at hx)).symm⟩)))))) λhk=>ao (by omega) (hn o ⟨⟨hb,hg,hl⟩,(bX (λhh=>hk hh.1)).symm⟩))))))));have hy:=hn (o++[y.node]) ⟨⟨hb,hg,hl⟩,(dz hk (by simpa using hx)).symm⟩;simp only[ndI,zan] at hy;refine aq (eA rfl (by rw[zaa]) (by omega) (by decide)) (ao (by omega) ?_);exact hy)
 (by
  rintro⟨l,b,o0,i,g⟩ o k ae hk ⟨⟨hb,hg,hl⟩,ho⟩ bt
  try dsimp only at*
  (rw[<-qcd];delta gD H4 vA Zt ZK Cj iq rk Zn ZL fI Pw cr cS fE Za Z9 Zj ZcX Zg fJ lS Zb9 Zb8 Zb7 ZcV qf H5 H6 OB H7 cK eD kL)
  have gq:0<=i/\i<((l.map aQ).length:Int):=by rw[zaa];exact hb
  have u6:D.dy (D.ar (aQ g) 6)=g.ops.map eN:=rfl;rw[hg,u6];refine ao gq (aq (cY g) (kA (by rw[zaa];omega) (bt _ (λh=>by cases h) ?_)));rw[ho,zaj])
 (by rintro s ae ⟨l,b,o,i,g,hg,rfl,⟨h1,h2,h3⟩,hp⟩;refine⟨(l,b,o,i,g),o,rfl,⟨⟨⟨h1,h2⟩,hg,h3⟩,by simp[sT]⟩,?_⟩;rintro z rfl;exact hp _ rfl)
theorem qfv:LD X 76 3 (ah (aL 76 3) gNd):=LD.idx (H:=[]) (hk:=[(6,ah (aL 76 6) qfr)]) (by kernel_rfl) (by kernel_rfl) .nil (.cons qa3 .nil)
 (A:=List ak×Bool) (B:=List av) (λa o i=>ndH a.1 a.2 o i) (λa=>a.1.length)
 (λa i o=>(a.1.length<=1000000/\dq a.1<=1000)/\o=uv a.2 (a.1.take i))
 (λa z=>z=(.exit 0,⟨60,[(5,.sl 0 0 (uv a.2 a.1).length)],[(0,⟨0,none,iH false (uv a.2 a.1)⟩)]⟩))
 (by
  rintro⟨l,b⟩ o i ae h0 bR aY ⟨hc,ho⟩ hn bt
  try dsimp only at*
  (rw[<-qce];delta Zn ZA Za Z9 Zj iq dA gX gD H4 vA Z7 sw Zt ZK rk fI Pw cr cS fE eD qP)
  have mb:=OU (b:=b) aY;have h2:=qR l (i.toNat+1);have h3:=sN aY;have h4:=nJ b (l.take i.toNat);rw[<-ho] at h4;refine bz (by rw[zaa];exact bR) ⟨l,b,o,i,l[i.toNat],ay _ _ _ aY,rfl,⟨h0,bR,by omega⟩,λo' gg=>ao (by omega) (hn o' ⟨hc,?_⟩)⟩;rw[gg,ho,mb])
 (by
  rintro⟨l,b⟩ o i ae hi ⟨hc,ho⟩ bt
  try dsimp only at*
  (rw[<-qce];delta Zn ZA Za Z9 Zj iq dA gX gD H4 vA Z7 sw Zt ZK rk fI Pw cr cS fE eD qP)
  refine kA (by rw[zaa];omega) (bt _ (λh=>by cases h) ?_);rw[ho,zaj])
 (by rintro s ae ⟨l,b,rfl,hc,hp⟩;refine⟨(l,b),[],rfl,⟨hc,rfl⟩,?_⟩;rintro z rfl;exact hp _ rfl)
theorem qif:FD X 76 qfs:=FD.mk (H:=[]) (hk:=[(3,ah (aL 76 3) gNd)]) (by kernel_rfl) .nil (.cons qfv .nil) (by
 intro ps R ae hh;obtain⟨l,b,rfl,rfl,hs,hp⟩:=hh
 (rw[<-qj2];delta gD H4 vA iq rk dA iR Zcv Ma Z7 Ed ZQ TJ fI Pw cr cS fE ZcY)
 exact⟨l,b,rfl,hs,λo ho=>hp o ho⟩)
end
theorem Vr(r:bS):cx PR 165 (lT r)=true:=by kernel_rfl
theorem qig(r:gS):cx PR 112 (lT r)=true:=by kernel_rfl
theorem qj6(s:List UInt8):cx PR 9 (D.str s)=true:=by kernel_rfl
theorem OV{x:av}{l:List aX}{k:Nat}(h:k<l.length):uu x (l.take (k+1))=uu x (l.take k)++Ew x l[k]:=by unfold uu;rw[zag h,zbG];simp
theorem Kv{x:av}{l:List ak}{i:Nat}(h:i<l.length):fG (l.take (i+1)) x=fG (l.take i) x++uu x l[i].ops:=by unfold fG;rw[zag h,zbG];simp
section
variable{X:XF}
theorem Vs:LD X 59 6 (ah (aL 59 6) Vc):=LD.idx (H:=[]) (hk:=[]) (by kernel_rfl) (by kernel_rfl) .nil .nil
 (A:=List ak×av×List bS×Int×ak) (B:=List bS) (λa o k=>qa0 a.1 a.2.1 o a.2.2.2.1 k) (λa=>a.2.2.2.2.ops.length)
 (λa k o=>((0<=a.2.2.2.1/\a.2.2.2.1<a.1.length)/\D.nth (a.1.map aQ) a.2.2.2.1.toNat=aQ a.2.2.2.2/\a.2.2.1.length+a.2.2.2.2.ops.length<=1000000)/\o=a.2.2.1++uu a.2.1 (a.2.2.2.2.ops.take k))
 (λa z=>z=(.exit 2,rn9 a.1 a.2.1 (a.2.2.1++uu a.2.1 a.2.2.2.2.ops) a.2.2.2.1))
 (by
  rintro⟨l,x,o0,i,g⟩ o k ae h0 uB dO ⟨⟨hb,hg,hl⟩,ho⟩ hn bt
  try dsimp only at*
  (rw[<-qb9];delta Zcr gU gT im gJ gK pq w9 Zcs Zt ZK Cj Zcq Zn ZL bT cN cr cS fE Za Z9 Zj Zct Zg fJ lS Zcp H5 H6 OB H7 cK eD kL)
  have gq:0<=i/\i<((l.map aQ).length:Int):=by rw[zaa];exact hb
  have u6:D.dy (D.ar (aQ g) 6)=g.ops.map eN:=rfl;have e1:D.nth (g.ops.map eN) k.toNat=eN g.ops[k.toNat]:=ay _ _ _ dO;have mb:=OV (x:=x) dO;have lX:o.length<1000000:=by have:=zT x (g.ops.take k.toNat);rw[zay] at this;rw[ho,zan];omega
  rw[hg,u6,e1];have Kf:0<=k/\k<((g.ops.map eN).length:Int):=by rw[zaa];exact⟨h0,uB⟩
  generalize g.ops[k.toNat]=y at*
  have kQ:=cY g;have tE:=JJ y;have c0:D.aj (D.ar (eN y) 0)=y.kind:=rfl;have c1:(D.aj (D.ar (eN y) 1)==x.1&&(D.aj (D.ar (eN y) 2)==x.2.1&&true)&&(D.aj (D.ar (eN y) 3)==x.2.2&&true))=(y.node==x):=uk y.node x;have t2:D.agg [D.int .i64 (D.aj (D.ar (eN y) 10)),D.int .i64 (D.aj (D.ar (eN y) 11)),D.int .i64 (D.aj (D.ar (eN y) 12)),D.int .i64 (D.aj (D.ar (eN y) 13)),D.int .i64 (D.aj (D.ar (eN y) 14)),D.int .i64 (D.aj (D.ar (eN y) 15)),D.str (D.eO (D.ar (eN y) 16))]=lT (y.after,y.elem,y.text):=rfl;rw[c0,c1,t2,cw];have bX: ¬(y.kind=3/\y.node=x)->o0++uu x (g.ops.take (k.toNat+1))=o:=λh=>by
   rw[mb,ho];have:Ew x y=[]:=by unfold Ew;rw[zal h]
   rw[this,zbe]
  have dz:y.kind=3->y.node=x->o0++uu x (g.ops.take (k.toNat+1))=o++[(y.after,y.elem,y.text)]:=λh1 h2=>by
   rw[mb,ho,za0];have:Ew x y=[(y.after,y.elem,y.text)]:=by unfold Ew;rw[zao ⟨h1,h2⟩]
   rw[this]
  refine ao gq (aq kQ (bz Kf.2 (ao gq (aq kQ (ao Kf (aq tE (Ai (λhk=>az (λhx=> ?_) λhx=>ao (by omega) (hn o ⟨⟨hb,hg,hl⟩,(bX (λhh=>by rw[hh.2] at hx;simp at hx)).symm⟩)) λhk=>ao (by omega) (hn o ⟨⟨hb,hg,hl⟩,(bX (λhh=>hk hh.1)).symm⟩))))))));have hy:=hn (o++[(y.after,y.elem,y.text)]) ⟨⟨hb,hg,hl⟩,(dz hk (by simpa using hx)).symm⟩;simp only[qa0,zan] at hy;refine aq (eA rfl (by rw[zaa]) (by omega) (by decide)) (ao (by omega) ?_);exact hy)
 (by
  rintro⟨l,x,o0,i,g⟩ o k ae hk ⟨⟨hb,hg,hl⟩,ho⟩ bt
  try dsimp only at*
  (rw[<-qb9];delta Zcr gU gT im gJ gK pq w9 Zcs Zt ZK Cj Zcq Zn ZL bT cN cr cS fE Za Z9 Zj Zct Zg fJ lS Zcp H5 H6 OB H7 cK eD kL)
  have gq:0<=i/\i<((l.map aQ).length:Int):=by rw[zaa];exact hb
  have u6:D.dy (D.ar (aQ g) 6)=g.ops.map eN:=rfl;rw[hg,u6];refine ao gq (aq (cY g) (kA (by rw[zaa];omega) (bt _ (λh=>by cases h) ?_)));rw[ho,zaj])
 (by rintro s ae ⟨l,x,o,i,g,hg,rfl,⟨h1,h2,h3⟩,hp⟩;refine⟨(l,x,o,i,g),o,rfl,⟨⟨⟨h1,h2⟩,hg,h3⟩,by simp[uu]⟩,?_⟩;rintro z rfl;exact hp _ rfl)
theorem qa4:LD X 59 3 (ah (aL 59 3) qfg):=LD.idx (H:=[]) (hk:=[(6,ah (aL 59 6) Vc)]) (by kernel_rfl) (by kernel_rfl) .nil (.cons Vs .nil)
 (A:=List ak×av) (B:=List bS) (λa o i=>rn9 a.1 a.2 o i) (λa=>a.1.length)
 (λa i o=>(a.1.length<=1000000/\dq a.1<=1000)/\o=fG (a.1.take i) a.2)
 (λa z=>z=(.exit 0,⟨53,[(5,.sl 0 0 (fG a.1 a.2).length)],[(0,⟨0,none,Vb false (fG a.1 a.2)⟩)]⟩))
 (by
  rintro⟨l,x⟩ o i ae h0 bR aY ⟨hc,ho⟩ hn bt
  try dsimp only at*
  (rw[<-qca];delta Zcr Zn ZA Za Z9 Zj dA gX gU gT im gJ gK pq w9 Zcs Z7 sw Zt ZK Zcq bT cN cr cS fE eD qP)
  have mb:=Kv (x:=x) aY;have h1:=qX x (l.take (i.toNat+1));have h2:=qR l (i.toNat+1);have h3:=sN aY;have h4:=qX x (l.take i.toNat);rw[<-ho] at h4;refine bz (by rw[zaa];exact bR) ⟨l,x,o,i,l[i.toNat],ay _ _ _ aY,rfl,⟨h0,bR,by omega⟩,λo' gg=>ao (by omega) (hn o' ⟨hc,?_⟩)⟩;rw[gg,ho,mb])
 (by
  rintro⟨l,x⟩ o i ae hi ⟨hc,ho⟩ bt
  try dsimp only at*
  (rw[<-qca];delta Zcr Zn ZA Za Z9 Zj dA gX gU gT im gJ gK pq w9 Zcs Z7 sw Zt ZK Zcq bT cN cr cS fE eD qP)
  refine kA (by rw[zaa];omega) (bt _ (λh=>by cases h) ?_);rw[ho,zaj])
 (by rintro s ae ⟨l,x,rfl,hc,hp⟩;refine⟨(l,x),[],rfl,⟨hc,rfl⟩,?_⟩;rintro z rfl;exact hp _ rfl)
theorem qih:FD X 59 qfh:=FD.mk (H:=[]) (hk:=[(3,ah (aL 59 3) qfg)]) (by kernel_rfl) .nil (.cons qa4 .nil) (by
 intro ps R ae hh;obtain⟨l,x,rfl,rfl,hs,hp⟩:=hh
 (rw[<-qjZ];delta Zcr dA iR Zcv gU gT im gJ gK pq w9 Z7 Ed uI Z7E bT cN cr cS fE Zcu)
 exact⟨l,x,rfl,hs,λo ho=>hp o ho⟩)
theorem Vt:LD X 79 8 (ah (aL 79 8) Vd):=LD.ins (H:=[(14,nC)]) (hk:=[]) (by kernel_rfl) (by kernel_rfl) (.cons vj .nil) .nil
 (A:=List bj×List bj×av×Nat×Int) (α:=aw) (λa o k=>qa1 a.1 a.2.1 a.2.2.1 o a.2.2.2.1 a.2.2.2.2 k) l7 (λa=>a.2.2.2.1) (λ_=>True) (λa o=>(.exit 2,⟨84,[(0,ji a.1),(1,ji a.2.1),(5,.ref 0 0 0),(7,.sl 1 0 a.2.2.2.1),(8,iD a.2.2.2.2)],[(0,⟨0,none,vH a.2.2.1⟩),(1,⟨0,none,mA false o⟩)]⟩)) (λ_ _ h=>by cases h)
 (by
  rintro⟨h,g,v,n,i⟩ o k ae _ h0 EO lX hk hz bX dz
  try dsimp only at*
  subst EO
  (rw[<-qfi];delta dX pd gU gT im gJ gK pq w9 Zcx Zt qt Ka Zs Tt bT zz Bb xG s7 Zc X6 Zg GH EG A4 Zcw Zx gV gW qe mP AY X7 uJ Za Z9 Zb uD LS lY Zr)
  refine b7 (λhp=> ?_) λhp=>hz (by omega);have fh:k.toNat-1<o.length:=by omega
  have ek:(k-1).toNat=k.toNat-1:=by omega
  have e1:D.nth (o.map bh) k.toNat=bh o[k.toNat]:=ay _ _ _ hk;have e2:D.nth (o.map bh) (k.toNat-1)=bh o[k.toNat-1]:=ay _ _ _ fh;have bX:=bX hp;have dz:=dz hp;have vB:=jg bh o k.toNat o[k.toNat] o[k.toNat-1];have e3: ∀z,D.nth ((o.map bh).set k.toNat z) (k.toNat-1)=bh o[k.toNat-1]:=λz=>by unfold D.nth;rw[zac,zaR (by omega)];simp[fh]
  rw[ek,e1,e2];simp only[e3];generalize o[k.toNat]=x at*
  generalize o[k.toNat-1]=y at*
  simp only[zaa,zbb] at dz⊢;have vC:0<=k/\k<(o.length:Int):=⟨h0,by omega⟩
  have vE:0<=k-1/\k-1<(o.length:Int):=⟨by omega,by omega⟩
  have hf:(-9223372036854775808:Int)<=k-1/\k-1<=9223372036854775807:=by omega
  refine ao vC (ao hk (aq (jI _) (ao hf (ao vE (ao fh (aq (jI _) ⟨x,y,rfl,rfl,λb hb=>az (λh=> ?_) λh=>bX (by rw[<-hb];exact h)⟩))))));have hy:=dz (by rw[<-hb];exact h);simp only[qa1,mA] at hy;rw[<-vB] at hy;refine ao hf (ao hf (ao vE (ao fh (aq (jI _) (ao vC (ao hk (aq (jI _) (ao vC (ao hk (aq (jI _) (ao vE (ao fh (aq (jI _) (ao hf ?_))))))))))))));exact hy)
 (by rintro s ae ⟨h,g,v,o,x,n,i,k,rfl,⟨hk,hn,ho⟩,hp⟩;refine⟨(h,g,v,n,i),o,x,k,rfl,hk,trivial,⟨hn.symm,ho⟩,?_⟩;have:=hp _ rfl;rw[of9,jK,<-hn] at this;exact this)
theorem qa5:LD X 79 3 (ah (aL 79 3) qfj):=LD.idx (H:=[(92,TA),(42,Hh)]) (hk:=[(8,ah (aL 79 8) Vd)]) (by kernel_rfl) (by kernel_rfl) (.cons qbL (.cons TM .nil)) (.cons Vt .nil)
 (A:=List bj×List bj×av) (B:=List aw) (λa o i=>of9 a.1 a.2.1 a.2.2 o i) (λa=>a.1.length) (λa i o=>(a.1.length<=1000000/\a.2.1.length<=1000000)/\o=tR (a.1.take i) a.2.1 a.2.2)
 (λa x=>x=(.exit 0,⟨84,[(7,.sl 0 0 (tR a.1 a.2.1 a.2.2).length)],[(0,⟨0,none,mA false (tR a.1 a.2.1 a.2.2)⟩)]⟩))
 (by
  rintro⟨h,g,v⟩ o i ae h0 bR aY ⟨hm,ho⟩ hn bt
  try dsimp only at*
  (rw[<-Ve];delta dX pd N2 Zt H2 gU gT im gJ gK pq w9 qt Za Z9 Zg zC Z8n dR Zcz Zcx Zn oL bT zz Bb xG s7 Zj Ib mR SS EK gV gW qe mP Al Ci Zx Z8o Zcy Oi Oj Y6)
  have lX:o.length<=i.toNat:=by rw[ho];exact Ey _ (by omega)
  have e1:D.nth (h.map jM) i.toNat=jM h[i.toNat]:=ay _ _ _ aY;have jQ:=Ex (g:=g) (x:=v) aY;rw[<-ho] at jQ;have ga:=λo' (gg:o'=Pv g v o h[i.toNat])=>hn o' ⟨hm,by rw[jQ];exact gg⟩;generalize h[i.toNat]=d at*
  rw[e1];simp only[zaa];have t1:List.take o.length (o.map bh)++[bh d.2]=(o++[d.2]).map bh:=cw bh o d.2;have c1:(D.aj (D.ar (jM d) 0)==v.1&&(D.aj (D.ar (jM d) 1)==v.2.1&&true)&&(D.aj (D.ar (jM d) 2)==v.2.2&&true))=(d.1==v):=uk d.1 v;rw[c1];refine bz bR (ao ⟨h0,bR⟩ (aq (Kb _) (az (λhx=>ao (by omega) (ga o ?_)) λhx=>ao ⟨h0,bR⟩ (aq (Kb _) ⟨g,d,rfl,rfl,hm.2,λb hb=> ?_⟩))))
  ·unfold Pv;rw[zao (.inl (by simpa using hx))]
  have AV: ¬d.1≠v:=by simpa using hx
  refine az (λvp=>ao (by omega) (ga o ?_)) λuq=>ao ⟨h0,bR⟩ (aq (Kb _) ⟨o,d.2,rfl,rfl,by omega,λb2 cm=>az (λTO=>ao (by omega) (ga o ?_)) λTP=> ?_⟩)
  ·unfold Pv;rw[hb,zai] at vp;rw[zao (.inr (.inl vp))]
  ·unfold Pv;rw[cm,zai] at TO;rw[zao (.inr (.inr TO))]
  rw[hb,zaE] at uq;rw[cm,zaE] at TP;have TQ:Pv g v o d=cJ l7 o d.2:=by unfold Pv;rw[zal (λhh=>hh.elim AV λhh=>hh.elim uq TP)]
  simp only[zap,zat,zaF];refine ao ⟨h0,bR⟩ (aq (Kb _) (aq ?_ (ao (by omega) ⟨h,g,v,o,d.2,o.length+1,i,((o.length+1:Nat):Int)-1,congrArg (λz=>(⟨84,[(0,ji h),(1,ji g),(5,.ref 0 0 0),(7,.sl 1 0 (o.length+1)),(8,iD i),(9,iD (((o.length+1:Nat):Int)-1))],[(0,⟨0,none,vH v⟩),(1,⟨0,none,.arr 30 false z⟩)]⟩:S)) t1,⟨by omega,rfl,by omega⟩,λo' gg=>ao (by omega) (ga o' (by rw[TQ];exact gg))⟩)));rw[zab];exact⟨by simp,ct (by omega) (by omega)⟩)
 (by
  rintro⟨h,g,v⟩ o i ae hi ⟨hm,ho⟩ bt
  try dsimp only at*
  (rw[<-Ve];delta dX pd N2 Zt H2 gU gT im gJ gK pq w9 qt Za Z9 Zg zC Z8n dR Zcz Zcx Zn oL bT zz Bb xG s7 Zj Ib mR SS EK gV gW qe mP Al Ci Zx Z8o Zcy Oi Oj Y6)
  refine kA (by simp only[zaa];omega) (bt _ (λh=>by cases h) ?_);rw[ho,zaj])
 (by rintro s ae ⟨h,g,v,rfl,hs,hp⟩;refine⟨(h,g,v),[],rfl,⟨hs,rfl⟩,?_⟩;rintro x rfl;exact hp _ rfl)
theorem qii:FD X 79 qfk:=FD.mk (H:=[]) (hk:=[(3,ah (aL 79 3) qfj)]) (by kernel_rfl) .nil (.cons qa5 .nil) (by
 intro ps R ae hh;obtain⟨h,g,v,rfl,rfl,hs,hp⟩:=hh
 (rw[<-qic];delta dX pd N2 dR Al Ci w8 gU gT im gJ gK pq w9 Z7 Ec uI bT zz Bb xG s7 ZcA)
 exact⟨h,g,v,rfl,hs,λo ho=>hp o ho⟩)
theorem Vu:LD X 107 13 (ah (aL 107 13) Vh):=LD.idx (H:=[]) (hk:=[]) (by kernel_rfl) (by kernel_rfl) .nil .nil
 (A:=List bS×List gS×List (List UInt8)×av×av×Bool×Int×Int) (B:=Bool) (λa b j=>qfl a.1 a.2.1 a.2.2.1 a.2.2.2.1 a.2.2.2.2.1 b a.2.2.2.2.2.2.1 a.2.2.2.2.2.2.2 j) (λa=>a.2.1.length)
 (λa j b=>a.2.1.length<=1000000/\b=(a.2.2.2.2.2.1 || (a.2.1.take j).any λe=>e.1==a.2.2.2.2.1))
 (λa z=>z=(.exit 4,⟨86,[(0,Ks a.1),(3,.sl 0 0 a.2.1.length),(4,iD a.2.2.2.2.2.2.1),(5,.sl 1 0 a.2.2.1.length),(7,.ref 2 0 0),(8,iD a.2.2.2.2.2.2.2),(9,.ref 3 0 0),(10,.d (.bool (a.2.2.2.2.2.1 ||a.2.1.any λe=>e.1==a.2.2.2.2.1)))],[(0,⟨0,none,xb false a.2.1⟩),(1,⟨0,none,qaZ false a.2.2.1⟩),(2,⟨0,none,vH a.2.2.2.1⟩),(3,⟨0,none,vH a.2.2.2.2.1⟩)]⟩))
 (by
  rintro⟨l,o,p,a,x,h,i,k⟩ b j ae h0 Ff Ce ⟨hc,hb⟩ hn bt
  try dsimp only at*
  (rw[<-Vg];delta fI gU im Zg gT gJ gK pq RH Lo vI ZcH Zn Z4M ZO ZcF Zt qt s6 Ig Kt nP EW Ct Za Z9 Zj)
  have e1:D.nth (o.map lT) j.toNat=lT o[j.toNat]:=ay _ _ _ Ce;have mb:((o.take (j.toNat+1)).any λe=>e.1==x)=((o.take j.toNat).any (λe=>e.1==x)||o[j.toNat].1==x):=by rw[zag Ce,zck,zdd,List.any_nil,zbU]
  rw[e1];generalize o[j.toNat]=e at*
  have c1:(D.aj (D.ar (lT e) 0)==x.1&&(D.aj (D.ar (lT e) 1)==x.2.1&&true)&&(D.aj (D.ar (lT e) 2)==x.2.2&&true))=(e.1==x):=uk e.1 x;rw[c1];refine bz Ff (az (λvp=>ao (by omega) (hn true ⟨hc,?_⟩)) λuq=>ao ⟨h0,Ff⟩ (ao (by rw[zaa];exact Ce) (aq (qig _) (ao (by omega) (hn _ ⟨hc,?_⟩)))))
  ·rw[mb,<-zde,<-hb,vp];rfl
  rw[mb,<-zde,<-hb,uq];rfl)
 (by
  rintro⟨l,o,p,a,x,h,i,k⟩ b j ae hj ⟨hc,hb⟩ bt
  try dsimp only at*
  (rw[<-Vg];delta fI gU im Zg gT gJ gK pq RH Lo vI ZcH Zn Z4M ZO ZcF Zt qt s6 Ig Kt nP EW Ct Za Z9 Zj)
  refine kA (by omega) (bt _ (λh=>by cases h) ?_);rw[hb,zaj])
 (by rintro s ae ⟨l,o,p,a,x,h,i,k,rfl,hc,hp⟩;refine⟨(l,o,p,a,x,h,i,k),h,rfl,⟨hc,by simp⟩,?_⟩;rintro z rfl;exact hp _ rfl)
theorem Vv:LD X 107 8 (ah (aL 107 8) Vj):=LD.idx (H:=[]) (hk:=[(13,ah (aL 107 13) Vh)]) (by kernel_rfl) (by kernel_rfl) .nil (.cons Vu .nil)
 (A:=List bS×List gS×List (List UInt8)×bS×Int) (B:=List gS) (λa o k=>Vf a.1 o a.2.2.1 (elA a.2.2.2.1 k.toNat) a.2.2.2.2 k) (λa=>a.2.2.1.length)
 (λa k o=>((0<=a.2.2.2.2/\a.2.2.2.2<a.1.length)/\D.nth (a.1.map lT) a.2.2.2.2.toNat=lT a.2.2.2.1/\a.2.2.1.length<=100000/\a.2.1.length+a.2.2.1.length<=1000000/\(0<=a.2.2.2.1.2.1.2.2/\a.2.2.2.1.2.1.2.2<=1000000000000))/\o=Mm a.2.2.2.1 a.2.1 (a.2.2.1.take k))
 (λa z=>z=(.exit 2,el9 a.1 (Mm a.2.2.2.1 a.2.1 a.2.2.1) a.2.2.2.2))
 (by
  rintro⟨l,o0,p,r,i⟩ o k ae h0 uB dO ⟨⟨hi,hr,MF,hl,he⟩,ho⟩ hn bt
  try dsimp only at*
  (rw[<-Vi];delta Zt nP A6 gU gT im gJ gK pq YP Zn oL Za Z9 Zj Zg ZcK ju RH Lo vI ZcH fI Z7 Z50 ZcF qt s6 Ig Kt EW Ct Bg ZcI)
  have gq:0<=i/\i<((l.map lT).length:Int):=by rw[zaa];exact hi
  have lX:o.length<=o0.length+k.toNat:=by rw[ho];exact Eu _ (by omega)
  have mb:=zQ (r:=r) (o:=o0) dO;rw[<-ho] at mb;have e1:D.nth (p.map D.str) k.toNat=D.str p[k.toNat]:=ay _ _ _ dO;rw[hr];have hx:(r.2.1.1,r.2.1.2.1,r.2.1.2.2+k)=Ar r k.toNat:=by unfold Ar;rw[Int.toNat_of_nonneg h0]
  have c3:D.aj (D.ar (lT r) 3)=r.2.1.1:=rfl;have c4:D.aj (D.ar (lT r) 4)=r.2.1.2.1:=rfl;have c5:D.aj (D.ar (lT r) 5)=r.2.1.2.2:=rfl;rw[c3,c4,c5];have c1:(r.2.1.1==(0:Int)&&(r.2.1.2.1==(0:Int)&&true)&&(r.2.1.2.2+k==(0:Int)&&true))=(Ar r k.toNat==aB):=by rw[<-hx];exact uk (r.2.1.1,r.2.1.2.1,r.2.1.2.2+k) aB
  rw[c1];have ha:elA r (k+1).toNat=Ar r k.toNat:=by rw[show(k+1).toNat=k.toNat+1 by omega];rfl
  have hn: ∀o',o'=U7 o (Ar r k.toNat) (elA r k.toNat) p[k.toNat]->ae (.normal,Vf l o' p (Ar r k.toNat) i (k+1)):=λo' h=>by have:=hn o' ⟨⟨hi,hr,MF,hl,he⟩,by rw[mb];exact h⟩;rw[ha] at this;exact this
  generalize elA r k.toNat=a at*
  refine bz uB (ao gq (aq (Vr _) (ao gq (aq (Vr _) (ao (by omega) ⟨l,o,p,a,Ar r k.toNat,Ar r k.toNat==aB,i,k,by rw[<-hx],by omega,λb hb=>az (λuq=> ?_) λvp=> ?_⟩)))))
  ·have hs:U7 o (Ar r k.toNat) a p[k.toNat]=o++[(Ar r k.toNat,a,p[k.toNat])]:=by
    unfold U7;refine zal λh=> ?_;rw[zbt,hb,Bool.or_eq_false_iff] at uq;rcases h with h |h
    ·rw[h] at uq;simp at uq
    rw[h] at uq;simp at uq
   have hy:=hn _ hs.symm;rw[e1];have t2:D.agg [D.int .i64 (Ar r k.toNat).1,D.int .i64 (Ar r k.toNat).2.1,D.int .i64 (Ar r k.toNat).2.2,D.int .i64 a.1,D.int .i64 a.2.1,D.int .i64 a.2.2,D.str (D.eO (D.str p[k.toNat]))]=lT (Ar r k.toNat,a,p[k.toNat]):=rfl;rw[t2,cw];simp only[Vf,zan] at hy;refine ao ⟨h0,uB⟩ (ao (by rw[zaa];exact dO) (aq (qj6 _) (aq (eA rfl (by rw[zaa]) (by omega) (by decide)) (ao (by omega) ?_))));exact hy
  have hs:U7 o (Ar r k.toNat) a p[k.toNat]=o:=by unfold U7;refine zao ?_;rw[zcS,hb,za9,zaT] at vp;exact vp
  exact ao (by omega) (hn _ hs.symm))
 (by
  rintro⟨l,o0,p,r,i⟩ o k ae hk ⟨⟨hi,hr,MF,hl,he⟩,ho⟩ bt
  try dsimp only at*
  (rw[<-Vi];delta Zt nP A6 gU gT im gJ gK pq YP Zn oL Za Z9 Zj Zg ZcK ju RH Lo vI ZcH fI Z7 Z50 ZcF qt s6 Ig Kt EW Ct Bg ZcI)
  refine kA (by omega) (bt _ (λh=>by cases h) ?_);rw[ho,zaj])
 (by rintro s ae ⟨l,o,p,r,i,rfl,hc,hr,hp⟩;refine⟨(l,o,p,r,i),o,rfl,⟨⟨⟨hc.1,hc.2.1⟩,hr,hc.2.2.2.1,hc.2.2.2.2.1,hc.2.2.2.2.2⟩,by simp[Mm]⟩,?_⟩;rintro z rfl;exact hp _ rfl)
theorem qa6:LD X 107 3 (ah (aL 107 3) qfm):=LD.idx (H:=[(144,tZ)]) (hk:=[(8,ah (aL 107 8) Vj)]) (by kernel_rfl) (by kernel_rfl) (.cons GF .nil) (.cons Vv .nil)
 (A:=List bS) (B:=List gS) (λl o i=>el9 l o i) (λl=>l.length)
 (λl i o=>mT l/\o=Hv (l.take i))
 (λl z=>z=(.exit 0,⟨86,[(3,.sl 0 0 (Hv l).length)],[(0,⟨0,none,xb false (Hv l)⟩)]⟩))
 (by
  rintro l o i ae h0 bR aY ⟨hc,ho⟩ hn bt
  try dsimp only at*
  (rw[<-Vk];delta RH Lo Kt RI vI Zn ua EW Ct Za Z9 Zj ZcN Z7 Ec s6 Ig Zt nP ZcM Zg Bg ZcL Z1Q uI RJ sx HR Zx wu ZcI)
  have e1:D.nth (l.map lT) i.toNat=lT l[i.toNat]:=ay _ _ _ aY;have mb:=zR aY;rw[<-ho] at mb;have h1:=xI (l:=l) i.toNat (by omega);rw[<-ho] at h1;have h2:=Cr aY;have h3:=U8 l (i.toNat+1);have h4:=hc.2.1;have hl1:=hc.1;have h5:=hc.2.2 _ (zas aY);have h6:=zU l[i.toNat].2.2;have gq:0<=i/\i<((l.map lT).length:Int):=by rw[zaa];exact⟨h0,bR⟩
  rw[e1];generalize l[i.toNat]=r at*
  have hn: ∀o',o'=elR o r->ae (.normal,el9 l o' (i+1)):=λo' h=>hn o' ⟨hc,by rw[mb];exact h⟩;have rD: ∀p,p=qx r.2.2->0<=i/\i<(l.length:Int)/\l.length<=1000000/\p.length<=100000/\o.length+p.length<=1000000/\(0<=r.2.1.2.2/\r.2.1.2.2<=1000000000000):=λp hp=>by subst hp;exact⟨h0,bR,hc.1,by omega,by omega,h5.2⟩
  refine bz gq.2 (ao gq (aq (Vr _) ⟨r.2.2,rfl,rfl,by omega,λhv=>ao gq (aq (Vr _) ?_),λhv p hp=>ao gq (aq (Vr _) ?_)⟩))
  ·have hp:[]=qx r.2.2:=by unfold qx;rw[hv];rfl
   exact⟨l,o,[],r,i,rfl,rD _ hp,e1,λo' gg=>ao (by omega) (hn o' (by rw[gg];unfold elR;rw[<-hp]))⟩
  have hp:p=qx r.2.2:=by unfold qx;rw[hv,zao rfl];exact hp
  exact⟨l,o,p,r,i,rfl,rD _ hp,e1,λo' gg=>ao (by omega) (hn o' (by rw[gg];unfold elR;rw[<-hp]))⟩)
 (by
  rintro l o i ae hi ⟨hc,ho⟩ bt
  try dsimp only at*
  (rw[<-Vk];delta RH Lo Kt RI vI Zn ua EW Ct Za Z9 Zj ZcN Z7 Ec s6 Ig Zt nP ZcM Zg Bg ZcL Z1Q uI RJ sx HR Zx wu ZcI)
  refine kA (by rw[zaa];omega) (bt _ (λh=>by cases h) ?_);rw[ho,zaj])
 (by rintro s ae ⟨l,rfl,hc,hp⟩;refine⟨l,[],rfl,⟨hc,rfl⟩,?_⟩;rintro z rfl;exact hp _ rfl)
theorem qij:FD X 107 qfn:=FD.mk (H:=[]) (hk:=[(3,ah (aL 107 3) qfm)]) (by kernel_rfl) .nil (.cons qa6 .nil) (by
 intro ps R ae hh;obtain⟨l,rfl,rfl,hs,hp⟩:=hh
 (rw[<-qid];delta vI Z7 JU ZQ SE Ct ZcO)
 exact⟨l,rfl,hs,λo ho=>hp o ho⟩)
theorem Vw:LD X 80 8 (ah (aL 80 8) Vl):=LD.ins (H:=[(88,jc)]) (hk:=[]) (by kernel_rfl) (by kernel_rfl) (.cons nz .nil) .nil
 (A:=List gS×Nat×Int) (α:=av) (λa o k=>qa2 a.1 o a.2.1 a.2.2 k) mO (λa=>a.2.1) (λ_=>True) (λa o=>(.exit 2,⟨64,[(5,.sl 0 0 a.1.length),(6,.sl 1 0 a.2.1),(7,iD a.2.2)],[(0,⟨0,none,xb false a.1⟩),(1,⟨0,none,iH false o⟩)]⟩)) (λ_ _ h=>by cases h)
 (by
  rintro⟨l,n,i⟩ o k ae _ h0 EO lX hk hz bX dz
  try dsimp only at*
  subst EO
  (rw[<-qfo];delta gD H4 vI Zt qU J6 Wy ZcQ Zg JG JH JI NN Zc V7 Wg Z8j Zs Z8i Tk Zx ZE HQ Tm Pd qf Z8f uJ Za Z9 Zb xv TE lY Zr)
  refine b7 (λhp=> ?_) λhp=>hz (by omega);have fh:k.toNat-1<o.length:=by omega
  have ek:(k-1).toNat=k.toNat-1:=by omega
  have e1:D.nth (o.map bH) k.toNat=bH o[k.toNat]:=ay _ _ _ hk;have e2:D.nth (o.map bH) (k.toNat-1)=bH o[k.toNat-1]:=ay _ _ _ fh;have bX:=bX hp;have dz:=dz hp;have vB:=jg bH o k.toNat o[k.toNat] o[k.toNat-1];have e3: ∀z,D.nth ((o.map bH).set k.toNat z) (k.toNat-1)=bH o[k.toNat-1]:=λz=>by unfold D.nth;rw[zac,zaR (by omega)];simp[fh]
  rw[ek,e1,e2];simp only[e3];generalize o[k.toNat]=x at*
  generalize o[k.toNat-1]=y at*
  simp only[zaa,zbb] at dz⊢;have vC:0<=k/\k<(o.length:Int):=⟨h0,by omega⟩
  have vE:0<=k-1/\k-1<(o.length:Int):=⟨by omega,by omega⟩
  have hf:(-9223372036854775808:Int)<=k-1/\k-1<=9223372036854775807:=by omega
  refine ao vC (ao hk (aq (l6 _) (ao hf (ao vE (ao fh (aq (l6 _) ⟨(x).1,(x).2.1,(x).2.2,(y).1,(y).2.1,(y).2.2,rfl,rfl,b7 (λh=> ?_) λh=>bX (by rw[<-zaX];exact λh2=>h ((ij (x) (y)).2 h2))⟩))))));have hy:=dz ((ij (x) (y)).1 h);simp only[qa2,iH] at hy;rw[<-vB] at hy;refine ao hf (ao hf (ao vE (ao fh (aq (l6 _) (ao vC (ao hk (aq (l6 _) (ao vC (ao hk (aq (l6 _) (ao vE (ao fh (aq (l6 _) (ao hf ?_))))))))))))));exact hy)
 (by rintro s ae ⟨l,o,x,n,i,k,rfl,⟨hk,hn,ho⟩,hp⟩;refine⟨(l,n,i),o,x,k,rfl,hk,trivial,⟨hn.symm,ho⟩,?_⟩;have:=hp _ rfl;rw[es9,jK,<-hn] at this;exact this)
theorem qa7:LD X 80 4 (ah (aL 80 4) qfp):=LD.idx (H:=[]) (hk:=[(8,ah (aL 80 8) Vl)]) (by kernel_rfl) (by kernel_rfl) .nil (.cons Vw .nil)
 (A:=List gS) (B:=List av) (λl o i=>es9 l o i) (λl=>l.length) (λl i o=>l.length<=1000000/\o=cp mO ((l.take i).map (·.1)))
 (λl x=>x=(.exit 0,⟨64,[(6,.sl 0 0 (cp mO (l.map (·.1))).length)],[(0,⟨0,none,iH false (cp mO (l.map (·.1)))⟩)]⟩))
 (by
  rintro l o i ae h0 bR aY ⟨hm,ho⟩ hn bt
  try dsimp only at*
  (rw[<-Vm];delta gD H4 vA iq rk Zn ZL Za Z9 Zj qp xa Z8u Zt qt Ka J6 vI qU Wy Zg ZcR ZcS qf)
  have lX:o.length<=i.toNat:=by rw[ho,kX,zaa,zay];exact Nat.min_le_left _ _
  have e1:D.nth (l.map lT) i.toNat=lT l[i.toNat]:=ay _ _ _ aY;have jQ:cp mO ((l.take (i.toNat+1)).map (·.1))=cJ mO o l[i.toNat].1:=by rw[zag aY,zaB,List.map_singleton,sJ,ho]
  have ga:=λo' (gg:o'=cJ mO o l[i.toNat].1)=>hn o' ⟨hm,by rw[jQ];exact gg⟩;generalize l[i.toNat]=d at*
  rw[e1];have t1:List.take o.length (o.map bH)++[bH d.1]=(o++[d.1]).map bH:=cw bH o d.1;simp only[zaa,zap,zat,zaF];refine bz bR (ao ⟨h0,bR⟩ (ao aY (aq (qig _) (aq ?_ (ao (by omega) ⟨l,o,d.1,o.length+1,i,((o.length+1:Nat):Int)-1,congrArg (λz=>(⟨64,[(5,.sl 0 0 l.length),(6,.sl 1 0 (o.length+1)),(7,iD i),(8,iD (((o.length+1:Nat):Int)-1))],[(0,⟨0,none,xb false l⟩),(1,⟨0,none,.arr 50 false z⟩)]⟩:S)) t1,⟨by omega,rfl,by omega⟩,λo' gg=>ao (by omega) (ga o' gg)⟩)))));rw[zab];exact⟨by simp,ct (by omega) (by omega)⟩)
 (by
  rintro l o i ae hi ⟨hm,ho⟩ bt
  try dsimp only at*
  (rw[<-Vm];delta gD H4 vA iq rk Zn ZL Za Z9 Zj qp xa Z8u Zt qt Ka J6 vI qU Wy Zg ZcR ZcS qf)
  refine kA (by omega) (bt _ (λh=>by cases h) ?_);rw[ho,zaj])
 (by rintro s ae ⟨l,rfl,hs,hp⟩;refine⟨l,[],rfl,⟨hs,rfl⟩,?_⟩;rintro x rfl;exact hp _ rfl)
theorem qik:FD X 80 qfq:=FD.mk (H:=[(59,qfh),(107,qfn)]) (hk:=[(4,ah (aL 80 4) qfp)]) (by kernel_rfl) (.cons qih (.cons qij .nil)) (.cons qa7 .nil) (by
 intro ps R ae hh;obtain⟨l,x,rfl,rfl,⟨hs,h2,hr⟩,hp⟩:=hh
 (rw[<-qie];delta gD H4 vA iq rk Ma vI Z7 sw uI Z7V Wy ZcT dA iR Zcv Zx gU gT im gJ gK ve jf cr cS)
 refine⟨l,x,rfl,rfl,⟨hs,h2⟩,λr vM=>⟨r,by rw[zah (by simp)],rfl,by rw[vM];exact hr,λo ho=>⟨o,rfl,?_,λo' gg=>hp o' ?_⟩⟩⟩
 ·have:=xI (l:=r) _ (zak _);rw[zaj,<-ho] at this;have:=hr.2.1;rw[<-vM] at this;omega
 rw[gg,ho,vM];rfl)
end
structure cH where
 what:Int
 r:Int
 a:Int
 b:Int
 c:Int
 see:Bool
abbrev uE(n:Int):D:= .int .u8 n
def xc(x:cH):D:= .agg [uE x.what,uE x.r,uE x.a,uE x.b,uE x.c,.bool x.see]
structure Ez(x:cH):Prop where
 what:0<=x.what/\x.what<=255
 r:0<=x.r/\x.r<=255
 a:0<=x.a/\x.a<=255
 b:0<=x.b/\x.b<=255
 c:0<=x.c/\x.c<=255
def wD(l:List ak)(K:List (List Int)):D:= .agg [.sl 7 (l.map aQ),.sl 1 (K.map λv=> .sl 1 (a8 v))]
def Vx:bm:=λps R ae=> ∃(l:List av) (n:Int),ps=[cX l,.d (uE n)]/\R=[]/\(l.length<=1000000/\0<=n/\n<=255)/\ ∀y,(y=aB\/y∈l)->ae (.d (bH y),[])
def Zdc(x:cH)(o:List av):Int:=Int.tmod (cH.b x) (xa o)+(1:Int)+Int.tmod (cH.c x) (3:Int)
def Zd7(x:cH):Bool:=decide (Z9<=cH.c x/\cH.c x<=Za)
def Zdb(ae:P×List (Nat×En)->Prop):Prop:=ae (P.cT (P.d (D.agg (Z7::Z7::Z7::Z7::Z7::Z7::Z7::z7::Z2P))::V3),[])
def Zdd(l:List ak)(y:av)(ae:P×List (Nat×En)->Prop)(x:cH):Prop:= ∃(zV:List ak) (aK:av),cS l::jf y=cS zV::jf aK/\Zx/\(iR zV/\dq zV<=1000/\mT (fG zV aK))/\ ∀(o:List av),o=Kr zV aK->bif Z2y y then Zdb ae else bif xa o==(0:Int) then Zdb ae else bif decide (Z9<=cH.b x/\cH.b x<=Za) then bif !decide (xa o=(0:Int)) then bif decide (Z9<=Int.tmod (cH.b x) (xa o)+(1:Int)/\Int.tmod (cH.b x) (xa o)+(1:Int)<=Za) then bif Zd7 x then bif decide (Z9<=Zdc x o/\Zdc x o<=Za) then bif decide ((0:Int)<=min (xa o) (Zdc x o)/\min (xa o) (Zdc x o)<=xa o) then bif decide ((0:Int)<=Int.tmod (cH.b x) (xa o)/\Int.tmod (cH.b x) (xa o)<=(↑(Int.toNat (min (xa o) (Zdc x o))):Int)) then ae (P.cT (P.d (D.agg [D.int .i64 (4:Int),gK y,gJ y,gT y,Z7,Z7,Z7,z7,Z3,Pb,Z7,Z7,Z7,Z7,Z7,Z7,z7,D.sl 3 (List.take (Int.toNat (min (xa o) (Zdc x o))-Int.toNat (Int.tmod (cH.b x) (xa o))) (List.drop (Int.toNat (Int.tmod (cH.b x) (xa o))) (gD o)))])::Pa),[]) else False else False else False else False else False else False else False
def Zd6(y:av):List P:=[P.d (D.bool !Z2y y)]
def Zd8(x:cH):Int:=Int.tmod (cH.c x) (5:Int)+(1:Int)
def Zd9(x:cH):Int:=Zd8 x+Int.tmod (cH.c x) (2:Int)
def Zd3(y:av)(kM:List av):Prop:=y=aB\/y∈kM
def Zd2(kM:List av)(n:Int):Prop:=qp kM/\(0:Int)<=n/\n<=(255:Int)
def Zd0(kM:List av)(n:Int):List P:=[ma kM,P.d (D.int .u8 n)]
def Zda(x:cH)(l:List ak)(y:av)(ae:P×List (Nat×En)->Prop)(s:aw):Prop:=bif Zd7 x then∃(zV:List ak) (aK:av),cS l::jf y=cS zV::jf aK/\Zx/\(iR zV/\dq zV<=1000/\mT (fG zV aK))/\ ∀(o:List av),o=Kr zV aK-> ∃(l:List av) (n:Int),[UM o,P.d (D.int .u8 (cH.b x))]=Zd0 l n/\Zx/\Zd2 l n/\ ∀(DE:av),Zd3 DE l->bif decide (Z9<=Zd8 x/\Zd8 x<=Za) then bif Zd7 x then bif decide (Z9<=Zd9 x/\Zd9 x<=Za) then bif decide ((0:Int)<=Zd9 x/\Zd9 x<=(6:Int)) then bif decide ((0:Int)<=Int.tmod (cH.c x) (5:Int)/\Int.tmod (cH.c x) (5:Int)<=(↑(Int.toNat (Zd9 x)):Int)) then ae (P.cT (P.d (D.agg (D.int .i64 (3:Int)::gK y::gJ y::gT y::Z7::Z7::Z7::z7::Z3::Pb::gK DE::gJ DE::gT DE::gW s::gV s::Z7::D.str (List.drop (Int.toNat (Int.tmod (cH.c x) (5:Int))) (List.take (Int.toNat (Zd9 x)) [(117:UInt8),(118:UInt8),(119:UInt8),(120:UInt8),(121:UInt8),(122:UInt8)]))::Z2N))::Zd6 y),[]) else False else False else False else False else False else False
def ZcZ(x:cH):Int:=IntKind.wrap IntKind.u8 (Int.tmod (cH.b x) (3:Int)+(1:Int))
def Zd5(x:cH):D:=D.str (List.drop (Int.toNat (Int.tmod (cH.b x) (3:Int))) (List.take (Int.toNat (ZcZ x)) [(97:UInt8),(98:UInt8),(99:UInt8)]))
def Vy(x:cH):Int:=Int.tmod (cH.what x) (8:Int)
def Zd1(aP:List av)(x:cH)(kM:List av)(n:Int):Prop:=[UM aP,P.d (D.int .u8 (cH.a x))]=Zd0 kM n
theorem qj7(l:List ak)(s:aw)(x:cH)(ae:P×List (Nat×En)->Prop):(∃(au:List ak) (b:Bool),cS l::Pa=[cS au,fI b]/\Zx/\Zcv au/\ ∀(o:List av),o=uv b au-> ∃(eX:List ak) (b:Bool),cS l::V3=[cS eX,fI b]/\Zx/\Zcv eX/\ ∀(aP:List av),aP=uv b eX->bif decide ((0:Int)<=ZcZ x/\ZcZ x<=(3:Int)) then bif decide ((0:Int)<=Int.tmod (cH.b x) (3:Int)/\Int.tmod (cH.b x) (3:Int)<=(↑(Int.toNat (ZcZ x)):Int)) then∃(kM:List av) (n:Int),Zd1 aP x kM n/\Zx/\Zd2 kM n/\ ∀(y:av),Zd3 y kM->bif Vy x==(0:Int) then∃(l:List av) (n:Int),Zd1 o x l n/\Zx/\Zd2 l n/\ ∀(y:av),Zd3 y l->ae (P.cT (P.d (D.agg (Z7::gW s::gV s::Z7::gK y::gJ y::gT y::Zd5 x::D.bool true::Pb::V6))::Pa),[]) else bif Vy x==(1:Int) then∃(l:List av) (n:Int),Zd1 o x l n/\Zx/\Zd2 l n/\ ∀(y:av),Zd3 y l->ae (P.cT (P.d (D.agg (Z7::gW s::gV s::Z7::gK y::gJ y::gT y::Zd5 x::Z2P))::Pa),[]) else bif Vy x==(2:Int) then∃(a:List av) (b:List av),[UM aP,UM o]=[ma a,ma b]/\Zx/\(qp a/\qp b)/\ ∀(Bf:List av),Bf=a++b-> ∃(l:List av) (n:Int),[UM Bf,P.d (D.int .u8 (cH.c x))]=Zd0 l n/\Zx/\Zd2 l n/\ ∀(y:av),Zd3 y l-> ∃(l:List av) (n:Int),Zd1 o x l n/\Zx/\Zd2 l n/\ ∀(DE:av),Zd3 DE l->ae (P.cT (P.d (D.agg (ZR::gK y::gJ y::gT y::gK DE::gJ DE::gT DE::Zd5 x::Z2P))::Zd6 y),[]) else bif Vy x==(3:Int) then∃(a:List av) (b:List av),[UM aP,UM o]=[ma a,ma b]/\Zx/\(qp a/\qp b)/\ ∀(o:List av),o=a++b-> ∃(zV:List av) (n:Int),[UM o,P.d (D.int .u8 (cH.c x))]=Zd0 zV n/\Zx/\Zd2 zV n/\ ∀(y:av),Zd3 y zV-> ∃(Wz:List ak),rn l Wz/\Zx/\Pu Wz/\ ∀(o:List aw) (t:Tl) (p:List Pl) (x:List It),o=JX Wz->t=vv o (aC Wz)->p=Kk (aC Wz) t->x=qaK (aC Wz) t-> ∃(h:List bj) (g:List bj) (x:av),P.d (D.sl 5 (List.map jM (Tl.h t)))::P.d (D.sl 5 (List.map jM (Tl.g t)))::jf y=Bb h::Bb g::jf x/\Zx/\(Ci h/\Ci g)/\ ∀(o:List aw),o=tR h g x->ae (P.cT (P.d (D.agg (V4::gK y::gJ y::gT y::Z7::Z7::Z7::z7::Z3::UL o::V6))::Zd6 y),[]) else bif Vy x==(4:Int) then bif Vy x==(4:Int) then Zda x l y ae s else Zdd l y ae x else bif Vy x==(5:Int) then Zda x l y ae s else Zdd l y ae x else False else False)=(aJ [(76,qfs),(77,Vx),(78,hJn),(32,zM),(79,qfk),(80,qfq)] [] 50 [bC l,.d (bh s),.d (xc x)] []) ae:=by kernel_rfl
def Zdf(l:List av)(n:Int)(c:Int):D:=D.nth (gD l) (Int.toNat (Int.tmod n (c+(1:Int))))
def Zde(n:Int):Bool:=decide (Z9<=n/\n<=Za)
theorem qfw(l:List av)(n:Int)(ae:P×List (Nat×En)->Prop):(bif Zde n then∀(c:Int),c=wz l->bif Zj c then bif !decide (c+(1:Int)=(0:Int)) then bif Int.tmod n (c+(1:Int))==wz l then ae (P.d (D.agg [Z7,Z7,Z7]),[]) else bif decide ((0:Int)<=Int.tmod n (c+(1:Int))/\Int.tmod n (c+(1:Int))<wz l) then bif cx PR (50:TypeId) (Zdf l n c) then ae (P.d (D.agg [D.int .i64 (D.aj (D.ar (Zdf l n c) 0)),D.int .i64 (D.aj (D.ar (Zdf l n c) 1)),D.int .i64 (D.aj (D.ar (Zdf l n c) 2))]),[]) else False else False else False else False else False)=(aJ [] [] 77 [cX l,.d (uE n)] []) ae:=by kernel_rfl
def qfx:bm:=λps R ae=> ∃(i:Int) (l:List ak) (v:List Int) (r:Int) (x:cH),ps=[bC (aU l v),.d (bh (fW l v r)),.d (xc x)]/\R=[]/\(b8 i l/\(0<=i/\i<=100)/\Ez x)/\ ∀o (b:Bool),(b=true->OpW l v r o)->ae (.cT [.d (eN o),.d (.bool b)],[])
abbrev arV(z:Bool)(l:List (List Int)):Obj:= .arr 31 z (l.map λv=> .sl 1 (a8 v))
abbrev bxW(l:List ak)(K:List (List Int)):Obj:= .box 62 [bC l,.d (.sl 1 (K.map λv=> .sl 1 (a8 v)))]
abbrev qfy(x:cH):Obj:= .box 41 [.d (uE x.what),.d (uE x.r),.d (uE x.a),.d (uE x.b),.d (uE x.c),.d (.bool x.see)]
abbrev dn5(l:List ak)(K:List (List Int))(x:cH)(r:Int)(v:List Int)(i:Int):S:=⟨120,[(2,.ref 0 0 0),(3,.ref 1 0 0),(4,.ref 2 0 0),(5,iD r),(6,vD v),(7,iD i)],[(0,⟨0,none,bxW l K⟩),(1,⟨0,none,qfy x⟩),(2,⟨0,none,.box 62 [.sl 3 0 0,.sl 4 0 0]⟩),(3,⟨0,none,kV false []⟩),(4,⟨0,none,arV false []⟩)]⟩
def EX(K:List (List Int)):List D:=List.map (λ(v:List Int)=>D.sl 1 (a8 v)) K
def Px(l:List ak)(K:List (List Int)):Nat×En:=(0,En.mk 0 none (Obj.box (62:TypeId) [cS l,P.d (D.sl 1 (EX K))]))
def Zdi(l:List ak)(K:List (List Int))(x:cH):List (Nat×En):=[Px l K,(1,En.mk 0 none (Obj.box (41:TypeId) [P.d (D.int .u8 (cH.what x)),P.d (D.int .u8 (cH.r x)),P.d (D.int .u8 (cH.a x)),P.d (D.int .u8 (cH.b x)),P.d (D.int .u8 (cH.c x)),P.d (D.bool (cH.see x))])),(2,En.mk 0 none (Obj.box (62:TypeId) [P.sl 3 0 0,P.sl 4 0 0])),(3,LI),(4,En.mk 0 none (Obj.arr (31:TypeId) false []))]
theorem qcf(l:List ak)(K:List (List Int))(x:cH)(r:Int)(v:List Int)(i:Int)(ae:PX×S->Prop):(bif decide (i<(↑(List.length (EX K)):Int)) then bif decide ((0:Int)<=i/\i<(↑(List.length (EX K)):Int)) then bif cx PR (31:TypeId) (D.nth (EX K) (Zg i)) then∃(cI:List Int) (w:List Int),[Zk v,P.d (D.sl 1 (D.dy (D.nth (EX K) (Zg i))))]=Zk cI::ZW w/\Zx/\(iN cI/\iN w)/\bif Zj i then ae (PX.normal,S.mk 120 (JQ::sY::(4,s6)::EP r::(6,P.d (D.sl 1 (a8 (mN cI w))))::ZL i) (Zdi l K x)) else False else False else False else ae (PX.exit 0,S.mk 120 [JQ,sY,(4,s6),EP r,(6,Zk v)] (Zdi l K x)))=(aD [(47,Jl)] [] 29 5 (dn5 l K x r v i)) ae:=by kernel_rfl
def mgA(v:List Int)(K:List (List Int)):List Int:=K.foldl mN v
def Kw(v:List Int)(K:List (List Int)):Prop:=K.length<=1000/\dp v=true/\ ∀w∈K,dp w=true
def qfz:S->K (PX×S):=λs ae=> ∃l K x r v,s=dn5 l K x r v 0/\Kw v K/\ ∀w,w=mgA v K->ae (.exit 0,⟨120,[(2,.ref 0 0 0),(3,.ref 1 0 0),(4,.ref 2 0 0),(5,iD r),(6,vD w)],[(0,⟨0,none,bxW l K⟩),(1,⟨0,none,qfy x⟩),(2,⟨0,none,.box 62 [.sl 3 0 0,.sl 4 0 0]⟩),(3,⟨0,none,kV false []⟩),(4,⟨0,none,arV false []⟩)]⟩)
def Vz(x:cH):Int:=(1:Int)+Int.tmod (cH.r x) (3:Int)
def Zdl(x:cH):Nat:=Int.toNat (Vz x-(1:Int))
def OW(rZ:List (List Int)):List D:=[]++EX rZ
def Zdu(rZ:List (List Int)):Nat:=0+List.length (EX rZ)
def ZdH(K:List (List Int))(x:cH)(w:List Int):List D:=[D.sl 1 (List.take (Zdu K) (List.set (OW K) (Zdl x) (D.aV (D.sl 1 (D.dy (D.nth (OW K) (Zdl x)))) [D.sl 1 (a8 w)])))]
def ZdG(x:cH)(K:List (List Int)):Bool:=decide ((0:Int)<=Vz x-(1:Int)/\Vz x-(1:Int)<(↑(Zdu K):Int))
def ZdF(o:aX):List D:=[Z7,Z7,D.sl 18 [A2 o]]
def WA(aK:cH):List P:=[P.d (D.agg [D.int .u8 (cH.what aK),D.int .u8 (cH.r aK),D.int .u8 (cH.a aK),D.int .u8 (cH.b aK),D.int .u8 (cH.c aK),D.bool (cH.see aK)])]
def ZdE(kM:List ak)(v:List Int)(z8:Int)(x:cH):List P:=P.d (D.sl 7 (List.map aQ (aU kM v)))::P.d (D.agg [D.int .i64 (Prod.fst (fW kM v z8)),D.int .i64 (Prod.snd (fW kM v z8))])::WA x
def ZdC(rZ:List (List Int))(r:Int)(EE:List Int):List D:=[D.sl 1 (List.take (Zdu rZ) (List.set (OW rZ) (Zc r) (D.aV (D.sl 1 (D.dy (D.nth (OW rZ) (Zc r)))) [D.sl 1 (a8 EE)])))]
def ZdB(au:List ak):List D:=List.take (0+eD au) ([]++cr au)
def Zds(o:List ak)(aK:cH):D:=D.nth (cr o) (Int.toNat (Int.tmod (cH.a aK) (gX o)))
def ZdA(o:List ak)(aK:cH):List D:=[D.int .i64 (D.aj (D.ar (Zds o aK) 0)),D.int .i64 (D.aj (D.ar (Zds o aK) 1)),D.sl 18 []]
def Zdz(au:List ak):Bool:=Nat.ble (0+eD au) (List.length ([]++cr au))
def Zdy(au:List ak):Bool:=Nat.ble 0 0&&aO (0+eD au) 88
def Zdw(r:Int)(rZ:List (List Int)):Bool:=decide ((0:Int)<=r-(1:Int)/\r-(1:Int)<(↑(Zdu rZ):Int))
def Zdv(rZ:List (List Int)):Bool:=Nat.ble 0 0&&aO (Zdu rZ) 24
def HE(l:List Int)(bY:Int):D:=D.int .i64 (eB l bY+(1:Int))
def Zdr(aK:cH)(o:List ak):Bool:=decide ((0:Int)<=Int.tmod (cH.a aK) (gX o)/\Int.tmod (cH.a aK) (gX o)<gX o)
def Zdq(aK:cH):Bool:=decide (Z9<=cH.a aK/\cH.a aK<=Za)
def Py(au:List ak)(rZ:List (List Int)):P:=P.d (D.agg [D.sl 7 (cr au),D.sl 1 (EX rZ)])
def Zdo(l:List Int)(bY:Int):Bool:=decide (Z9<=eB l bY+(1:Int)/\eB l bY+(1:Int)<=Za)
def Pz(K:List (List Int))(x:cH):D:=D.sl 1 (D.dy (D.nth (EX K) (Zdl x)))
def PA(x:cH):D:=D.int .i64 (Vz x)
def Zdk(x:cH):Bool:=decide (Z9<=Vz x-(1:Int)/\Vz x-(1:Int)<=Za)
theorem qj8(l:List ak)(K:List (List Int))(x:cH)(ae:P×List (Nat×En)->Prop):(bif decide (Z9<=cH.r x/\cH.r x<=Za) then bif decide (Z9<=Vz x/\Vz x<=Za) then bif Zdk x then bif decide ((0:Int)<=Vz x-(1:Int)/\Vz x-(1:Int)<(↑(List.length (EX K)):Int)) then bif cx PR (31:TypeId) (D.nth (EX K) (Zdl x)) then bif cH.see x then∃(au:List ak) (rZ:List (List Int)) (aK:cH) (r:Int) (v:List Int),S.mk 120 (JQ::sY::(4,s6)::(5,P.d (PA x))::(6,P.d (Pz K x))::sw) (Zdi l K x)=S.mk 120 (JQ::sY::(4,s6)::EP r::(6,Zk v)::sw) (Zdi au rZ aK)/\Kw v rZ/\ ∀(w:List Int),w=mgA v rZ-> ∃(l:List ak) (v:List Int),cS au::ZW w=cS l::ZW v/\Zx/\(iR l/\wW v)/\ ∀(o:List ak),o=aU l v-> ∃(l:List Int) (bY:Int),Zw w r l bY/\Zx/\Zz l/\bif Zdo l bY then∃(eX:List ak),ZbP o eX/\Zx/\iR eX/\ ∀(t:Int),t=mY eX->bif Zj t then bif Vy aK==(7:Int) then bif gX o==(0:Int) then ae (Py au rZ,[]) else bif Zdq aK then bif !decide (gX o=(0:Int)) then bif Zdr aK o then bif decide (Int.toNat (Int.tmod (cH.a aK) (gX o))<eD o) then bif cx PR (34:TypeId) (Zds o aK) then∃(v:List Int) (z8:Int) (n:Int),[Zk w,P.d (Zt r),P.d (HE l bY)]=Ug v z8 n/\Zx/\Uf v z8/\ ∀(EE:List Int),EE=bb (e8 v z8 n)->bif Zdv rZ then bif Zb r then bif Zdw r rZ then bif decide (Zc r<List.length (OW rZ)) then bif cx PR (31:TypeId) (D.nth (OW rZ) (Zc r)) then bif Zdy au then bif Zdz au&&aO (0+eD au+List.length [D.agg (Zn t::Zt r::HE l bY::D.sl 1 (a8 w)::ZdA o aK)]) 88 then ae (P.d (D.agg (D.sl 7 (List.take (0+eD au+List.length [D.agg (Zn t::Zt r::HE l bY::D.sl 1 (a8 w)::ZdA o aK)]) (ZdB au++[D.agg (Zn t::Zt r::HE l bY::D.sl 1 (a8 w)::ZdA o aK)]))::ZdC rZ r EE)),[]) else False else False else False else False else False else False else False else False else False else False else False else False else∃(i:Int) (kM:List ak) (v:List Int) (z8:Int) (x:cH),ZbO o::P.d (D.agg (Zn t::ZE r))::WA aK=ZdE kM v z8 x/\Zx/\(b8 i kM/\((0:Int)<=i/\i<=(100:Int))/\Ez x)/\ ∀(o:aX) (b:Bool),(b=true->OpW kM v z8 o)->bif ju b then ae (Py au rZ,[]) else∃(v:List Int) (r_3:Int) (n:Int),[Zk w,P.d (Zt r),P.d (HE l bY)]=Ug v r_3 n/\Zx/\Uf v r_3/\ ∀(EE:List Int),EE=bb (e8 v r_3 n)->bif Zdv rZ then bif Zb r then bif Zdw r rZ then bif decide (Zc r<List.length (OW rZ)) then bif cx PR (31:TypeId) (D.nth (OW rZ) (Zc r)) then bif Zdy au then bif Zdz au&&aO (0+eD au+List.length [D.agg (Zn t::Zt r::HE l bY::D.sl 1 (a8 w)::ZdF o)]) 88 then ae (P.d (D.agg (D.sl 7 (List.take (0+eD au+List.length [D.agg (Zn t::Zt r::HE l bY::D.sl 1 (a8 w)::ZdF o)]) (ZdB au++[D.agg (Zn t::Zt r::HE l bY::D.sl 1 (a8 w)::ZdF o)]))::ZdC rZ r EE)),[]) else False else False else False else False else False else False else False else False else False else∃(au:List ak) (v:List Int),[cS l,P.d (Pz K x)]=cS au::ZW v/\Zx/\(iR au/\wW v)/\ ∀(o:List ak),o=aU au v-> ∃(eX:List Int) (r:Int),[P.d (Pz K x),P.d (PA x)]=Zk eX::Zv r/\Zx/\Zz eX/\bif Zdo eX r then∃(kM:List ak),ZbP o kM/\Zx/\iR kM/\ ∀(t:Int),t=mY kM->bif Zj t then bif Vy x==(7:Int) then bif gX o==(0:Int) then ae (Py l K,[]) else bif Zdq x then bif !decide (gX o=(0:Int)) then bif Zdr x o then bif decide (Int.toNat (Int.tmod (cH.a x) (gX o))<eD o) then bif cx PR (34:TypeId) (Zds o x) then∃(v:List Int) (bY:Int) (n:Int),[P.d (Pz K x),P.d (PA x),P.d (HE eX r)]=Ug v bY n/\Zx/\Uf v bY/\ ∀(w:List Int),w=bb (e8 v bY n)->bif Zdv K then bif Zdk x then bif ZdG x K then bif decide (Zdl x<List.length (OW K)) then bif cx PR (31:TypeId) (D.nth (OW K) (Zdl x)) then bif Zdy l then bif Zdz l&&aO (0+eD l+List.length [D.agg (Zn t::PA x::HE eX r::Pz K x::ZdA o x)]) 88 then ae (P.d (D.agg (D.sl 7 (List.take (0+eD l+List.length [D.agg (Zn t::PA x::HE eX r::Pz K x::ZdA o x)]) (ZdB l++[D.agg (Zn t::PA x::HE eX r::Pz K x::ZdA o x)]))::ZdH K x w)),[]) else False else False else False else False else False else False else False else False else False else False else False else False else∃(i:Int) (zV:List ak) (v:List Int) (bY:Int) (aK:cH),ZbO o::P.d (D.agg [Zn t,PA x])::WA x=ZdE zV v bY aK/\Zx/\(b8 i zV/\((0:Int)<=i/\i<=(100:Int))/\Ez aK)/\ ∀(o:aX) (b:Bool),(b=true->OpW zV v bY o)->bif ju b then ae (Py l K,[]) else∃(v:List Int) (z8:Int) (n:Int),[P.d (Pz K x),P.d (PA x),P.d (HE eX r)]=Ug v z8 n/\Zx/\Uf v z8/\ ∀(w:List Int),w=bb (e8 v z8 n)->bif Zdv K then bif Zdk x then bif ZdG x K then bif decide (Zdl x<List.length (OW K)) then bif cx PR (31:TypeId) (D.nth (OW K) (Zdl x)) then bif Zdy l then bif Zdz l&&aO (0+eD l+List.length [D.agg (Zn t::PA x::HE eX r::Pz K x::ZdF o)]) 88 then ae (P.d (D.agg (D.sl 7 (List.take (0+eD l+List.length [D.agg (Zn t::PA x::HE eX r::Pz K x::ZdF o)]) (ZdB l++[D.agg (Zn t::PA x::HE eX r::Pz K x::ZdF o)]))::ZdH K x w)),[]) else False else False else False else False else False else False else False else False else False else False else False else False else False else False)=(aJ [(48,hKn),(13,V1),(46,vF),(49,Vp),(50,qfx)] [(5,ah (aL 29 5) qfz)] 29 [.d (wD l K),.d (xc x)] []) ae:=by kernel_rfl
def Cu(i:Int)(l:List ak)(x:cH)(l':List ak)(K':List (List Int)):Prop:=b8 (i+1) l'/\oZ (i+1) l' K'/\(x.what.tmod 8≠7->(∀g∈l,g.bN=(0,0))-> ∀g∈l',g.bN=(0,0))
def WOk(i:Int)(l:List ak)(K:List (List Int)):Prop:=b8 i l/\oZ i l K/\0<=i/\i<=100
def Mp:bm:=λps R ae=> ∃(i:Int) (l:List ak) (K:List (List Int)) (x:cH),ps=[.d (wD l K),.d (xc x)]/\R=[]/\(WOk i l K/\Ez x)/\ ∀l' K',Cu i l x l' K'->ae (.d (wD l' K'),[])
abbrev hi3(m:List cH)(l:List ak)(K:List (List Int))(i:Int):S:=⟨25,[(0,.d (.sl 6 (m.map xc))),(3,.ref 0 0 0),(4,iD i)],[(0,⟨0,none,bxW l K⟩)]⟩
abbrev oU(m:List cH):S:=⟨25,[(0,.d (.sl 6 (m.map xc))),(3,.ref 0 0 0),(4,iD 0)],[(0,⟨0,none,.box 62 [.d .fX,.sl 1 0 3]⟩),(1,⟨0,none,arV false [[],[],[]]⟩)]⟩
def ZdK(m:List cH):Nat×P:=(0,P.d (D.sl 6 (List.map xc m)))
def ZdJ(m:List cH)(i:Int):D:=D.nth (List.map xc m) (Zg i)
def ZdI(m:List cH):Int:=(↑(List.length (List.map xc m)):Int)
theorem qcg(m:List cH)(l:List ak)(K:List (List Int))(i:Int)(ae:PX×S->Prop):(bif decide (i<ZdI m) then bif decide (i<(16:Int)) then bif decide ((0:Int)<=i/\i<ZdI m) then bif cx PR (41:TypeId) (ZdJ m i) then∃(aI:Int) (au:List ak) (rZ:List (List Int)) (x:cH),[Py l K,P.d (D.agg [D.int .u8 (D.aj (D.ar (ZdJ m i) 0)),D.int .u8 (D.aj (D.ar (ZdJ m i) 1)),D.int .u8 (D.aj (D.ar (ZdJ m i) 2)),D.int .u8 (D.aj (D.ar (ZdJ m i) 3)),D.int .u8 (D.aj (D.ar (ZdJ m i) 4)),D.bool (D.ff (D.ar (ZdJ m i) 5))])]=Py au rZ::WA x/\Zx/\(WOk aI au rZ/\Ez x)/\ ∀(l':List ak) (K':List (List Int)),Cu aI au x l' K'->bif Zj i then ae (PX.normal,S.mk 25 (ZdK m::cN::ua i) [Px l' K']) else False else False else False else ae (PX.exit 0,S.mk 25 HY [Px l K]) else ae (PX.exit 0,S.mk 25 HY [Px l K]))=(aD [(29,Mp)] [] 11 3 (hi3 m l K i)) ae:=by kernel_rfl
def ZdM:List (Nat×En):=[(0,En.mk 0 none (Obj.box (62:TypeId) [P.d D.fX,P.sl 1 0 3])),(1,En.mk 0 none (Obj.arr (31:TypeId) false [zG,zG,zG]))]
def ZdL(m:List cH):D:=D.nth (List.map xc m) 0
theorem qch(m:List cH)(ae:PX×S->Prop):(bif decide ((0:Int)<ZdI m) then bif decide ((0:Int)<=(0:Int)/\(0:Int)<ZdI m) then bif cx PR (41:TypeId) (ZdL m) then∃(i:Int) (l:List ak) (K:List (List Int)) (x:cH),[P.d (D.agg [D.sl 7 [],D.sl 1 [zG,zG,zG]]),P.d (D.agg [D.int .u8 (D.aj (D.ar (ZdL m) 0)),D.int .u8 (D.aj (D.ar (ZdL m) 1)),D.int .u8 (D.aj (D.ar (ZdL m) 2)),D.int .u8 (D.aj (D.ar (ZdL m) 3)),D.int .u8 (D.aj (D.ar (ZdL m) 4)),D.bool (D.ff (D.ar (ZdL m) 5))])]=Py l K::WA x/\Zx/\(WOk i l K/\Ez x)/\ ∀(l':List ak) (K':List (List Int)),Cu i l x l' K'->ae (PX.normal,S.mk 25 [ZdK m,cN,(4,P.d ZR)] [Px l' K']) else False else False else ae (PX.exit 0,S.mk 25 HY ZdM))=(aD [(29,Mp)] [] 11 3 (oU m)) ae:=by kernel_rfl
def zW(m:List cH):Prop:=m.length<=9223372036854775807/\ ∀x∈m,Ez x
def Cv(m:List cH)(g:List ak):Prop:=b8 16 g/\((∀x∈m,x.what.tmod 8≠7)-> ∀y∈g,y.bN=(0,0))
def qfA:S->K (PX×S):=λs ae=> ∃m,s=oU m/\zW m/\ae (.exit 0,⟨25,[(3,.ref 0 0 0)],[(0,⟨0,none,.box 62 [.d .fX,.sl 1 0 3]⟩),(1,⟨0,none,arV false [[],[],[]]⟩)]⟩)/\ ∀l (K:List (List Int)),Cv m l->ae (.exit 0,⟨25,[(3,.ref 0 0 0)],[(0,⟨0,none,bxW l K⟩)]⟩)
theorem qil(m:List cH)(ae:P×List (Nat×En)->Prop):(∃(bO:List cH),S.mk 25 (ZdK m::cN::JU) ZdM=S.mk 25 (ZdK bO::cN::JU) ZdM/\zW bO/\ae (ZQ,Z5l)/\ ∀(l:List ak) (_:List (List Int)),Cv bO l->ae (cS l,[]))=(aJ [] [(3,ah (aL 11 3) qfA)] 11 [.d (.sl 6 (m.map xc))] []) ae:=by kernel_rfl
def qfB:bm:=λps R ae=> ∃m,ps=[.d (.sl 6 (m.map xc))]/\R=[]/\zW m/\ae (.sl 0 0 0,[(0,⟨0,none,kV false []⟩)])/\ ∀g,Cv m g->ae (bC g,[])
section
variable{i:Int}{l:List ak}(h:b8 i l)(hi:0<=i/\i<=1000)
theorem b8.right{i:Int}{l:List ak}(h:b8 i l):aC l=l:=JV h.Ko h.nd
include h hi
theorem b8.time:0<=Pi.mY l/\Pi.mY l<=i:=⟨(qj _).1,DV hi.1 _ λg hg=>(h.sm g hg).2.1.1⟩
theorem b8.qj9(r:Int):0<=DT l r/\DT l r<=i:=⟨oH l r,DU l 0 hi.1 λg hg=>(h.sm g hg).2.1.2⟩
theorem b8.next{r:Int}(h1:1<=r)(h2:r<=16):rR l r=0:=by have:=h.time hi;have:=h.qj9 hi r;unfold rR;rw[zal (by omega),zal (by omega)]
theorem b8.iv:dp (Pi.iv l)=true:=by
 have:=h;have:=hi;refine vG (sS λj=>oH l _) ?_;rw[jJ]
 decide
end
abbrev VA(z w:Bool)(on:List aw)(h:List Hd)(x:aw)(e:Int):List (Nat×En):=[(0,⟨0,none,.box 30 [iD x.1,iD x.2]⟩),(1,⟨0,none,.box 35 [iD e]⟩),(2,⟨0,none,.box 51 [.sl 3 0 on.length]⟩),(3,⟨0,none,mA w on⟩),(4,⟨0,none,.box 51 [.sl 5 0 h.length]⟩),(5,⟨0,none,mA z (h.map (·.1))⟩),(6,⟨0,none,.box 51 [.sl 7 0 h.length]⟩),(7,⟨0,none,mA z (h.map (·.2))⟩)]
abbrev qa8(l m:List ak)(r:Int)(on:List aw)(h:List Hd)(i:Int):S:=⟨69,[(0,bC l),(1,iD r),(4,.ref 0 0 0),(5,.ref 1 0 0),(6,.ref 2 0 0),(7,.ref 4 0 0),(8,.ref 6 0 0),(20,.sl 8 0 m.length),(21,iD (m.length:Int)),(22,iD i)],VA false false on h (0,0) 0++[(8,⟨0,none,kV false m⟩)]⟩
abbrev qim(l:List ak)(r:Int)(on:List aw)(h:List Hd):S:=⟨69,[(0,bC l),(1,iD r),(4,.ref 0 0 0),(5,.ref 1 0 0),(6,.ref 2 0 0),(7,.ref 4 0 0),(8,.ref 6 0 0)],VA false false on h (0,0) 0⟩
def VB(h:List Hd):Nat×En:=(6,En.mk 0 none (Obj.box (51:TypeId) [P.sl 7 0 (fg h)]))
def VC(h:List Hd):Nat×En:=(4,En.mk 0 none (Obj.box (51:TypeId) [P.sl 5 0 (fg h)]))
def ZdS(on:List aw)(h:List Hd):List (Nat×En):=[qu,Aq,Ap on,Mi on,VC h,(5,UN h),VB h,(7,UO h)]
def VD:Nat×P:=(8,P.ref 6 0 0)
def VE:Nat×P:=(7,P.ref 4 0 0)
def HF:List (Nat×P):=[kY,J3,Kj,VE,VD]
theorem qin(l m:List ak)(r:Int)(on:List aw)(h:List Hd)(i:Int)(ae:PX×S->Prop):(bif xx i m then bif ki i m then bif iA i m then bif cK m i then bif Nat.ble (fg h) (List.length (oJ h))&&aO (Zce h m i) 16 then bif Nat.ble (fg h) (List.length (qQ h))&&aO (Zcf h m i) 16 then bif Zj i then ae (PX.normal,S.mk 69 [fE l,ZF r,kY,J3,Kj,VE,VD,(20,P.sl 8 0 (dA m)),(21,Cl m),(22,P.d (Zn i))] [qu,Aq,Ap on,Mi on,(4,En.mk 0 none (Obj.box (51:TypeId) [P.sl 5 0 (Zce h m i)])),(5,Zch h m i),(6,En.mk 0 none (Obj.box (51:TypeId) [P.sl 7 0 (Zcf h m i)])),(7,Zcg h m i),(8,kz m)]) else False else False else False else False else False else False else ae (PX.exit 0,S.mk 69 (fE l::ZF r::HF) (ZdS on h)))=(fb [] [] [] 17 3 (qa8 l m r on h i)) ae:=by kernel_rfl
abbrev OX:Option (List Nat×List Nat):=some ([4,5,6,7,8],[4,5,6,7,8])
abbrev uw(z w:Bool)(on:List aw)(h:List Hd)(x:aw)(e:Int):S:=⟨69,[(4,.ref 0 0 0),(5,.ref 1 0 0),(6,.ref 2 0 0),(7,.ref 4 0 0),(8,.ref 6 0 0)],VA z w on h x e⟩
def ZdU(h:List Hd):List (Nat×En):=[VC h,(5,En.mk 0 none (Obj.arr (30:TypeId) true (oJ h))),VB h,(7,En.mk 0 none (Obj.arr (30:TypeId) true (qQ h)))]
def ZdY(on:List aw)(h:List Hd):S:=S.mk 69 HF (qu::Aq::Ap on::Mi on::ZdU h)
def ZdV(on:List aw)(h:List Hd):S:=S.mk 69 HF (qu::Aq::Ap on::ZbB on::ZdU h)
def ZdW(i:Int)(ae:PX×S×PX×S->Prop)(own:List ak)(on:List aw)(h:List Hd):Prop:=bif Zj i then ae (PX.normal,UK own i,PX.normal,ZdV on h) else False
def ZdX(on:List aw)(own:List ak)(i:Int)(ae:PX×S×PX×S->Prop)(h:List Hd):Prop:= ∃(l:List aw) (s:aw),P.d (UL on)::D2 own i=lN l::mP s/\Zx/\mR l/\ ∀(b:Bool),Ib b l s->bif b then ae (PX.ret,Ki own,PX.ret,S.mk 69 HF (OP own i::Aq::Ap on::ZbB on::ZdU h)) else ZdW i ae own on h
def ZdT(h:List Hd)(own:List ak)(i:Int)(l:List Hd)(x:aw):Prop:=P.d (D.sl 2 (List.take (fg h) (oJ h)))::P.d (D.sl 2 (List.take (fg h) (qQ h)))::D2 own i=P.d (D.sl 2 (oJ l))::P.d (D.sl 2 (qQ l))::mP x
def ZdZ(h:List Hd)(own:List ak)(i:Int)(on:List aw)(ae:PX×S×PX×S->Prop):Prop:= ∃(l:List Hd) (x:aw),ZdT h own i l x/\Zx/\Ud l/\ ∀(e:Int) (r:aw) (ev:Bool),gw l x=(e,r,ev)->bif e==(0:Int) then bif ju ev then ZdX on own i ae h else bif Zj i then ae (PX.normal,UK own i,PX.normal,ZdY on h) else False else bif Zj i then ae (PX.normal,UK own i,PX.normal,ZdY on h) else False
theorem qka(own:List ak)(on:List aw)(h:List Hd)(i:Int)(ae:PX×S×PX×S->Prop):(bif qP i own then bif kL i own then bif cK own i then bif Ic own i then ae (PX.ret,Ki own,PX.exit 2,S.mk 69 HF (ZdS on h)) else ZdZ h own i on ae else False else False else ae (PX.exit 0,Ki own,PX.normal,S.mk 69 HF (ZdS on h)))=(mz [(37,hEr),(38,Hr)] [] 17 9 2000000 OX 1 El 1 (Ao own i,(.normal,uw false false on h (0,0) 0))) ae:=by kernel_rfl
theorem qkb(own:List ak)(on:List aw)(h:List Hd)(i:Int)(ae:PX×S×PX×S->Prop):(bif qP i own then bif kL i own then bif cK own i then bif Ic own i then ae (PX.ret,Ki own,PX.exit 2,ZdY on h) else ZdZ h own i on ae else False else False else ae (PX.exit 0,Ki own,PX.normal,ZdY on h))=(mz [(37,hEr),(38,Hr)] [] 17 9 2000000 OX 1 El 1 (Ao own i,(.normal,uw true false on h (0,0) 0))) ae:=by kernel_rfl
theorem qkc(own:List ak)(on:List aw)(h:List Hd)(i:Int)(ae:PX×S×PX×S->Prop):(bif qP i own then bif kL i own then bif cK own i then bif Ic own i then ae (PX.ret,Ki own,PX.exit 2,ZdV on h) else∃(l:List Hd) (x:aw),ZdT h own i l x/\Zx/\Ud l/\ ∀(e:Int) (r:aw) (ev:Bool),gw l x=(e,r,ev)->bif e==(0:Int) then bif ju ev then ZdX on own i ae h else ZdW i ae own on h else ZdW i ae own on h else False else False else ae (PX.exit 0,Ki own,PX.normal,ZdV on h))=(mz [(37,hEr),(38,Hr)] [] 17 9 2000000 OX 1 El 1 (Ao own i,(.normal,uw true true on h (0,0) 0))) ae:=by kernel_rfl
def qfC:zx:=λy ae=> ∃own on h,(own.length<=1000000/\on.length<=1000000/\h.length<=1000000/\(h.map (·.1)).Nodup)/\y=(Ao own 0,(.normal,uw false false on h (0,0) 0))/\
 (∀z w s,bs h on own=some s->ae (.ret,Wu own,(.ret,uw z w on h s 0)))/\(∀z w,bs h on own=none->ae (.exit 0,Wu own,(.normal,uw z w on h (0,0) 0)))/\(∀z w,bs h on own=none->ae (.ret,Wu own,(.exit 2,uw z w on h (0,0) 0)))
abbrev qio(l own:List ak)(on:List aw)(h:List Hd)(r:Int):S:=⟨69,[(0,bC l),(1,iD r),(4,.ref 0 0 0),(5,.ref 1 0 0),(6,.ref 2 0 0),(7,.ref 4 0 0),(8,.ref 6 0 0),(37,bC l),(38,iD r),(39,.fn El [.ref 1039000 0 0])],VA false false on h (0,0) 0++[(1039000,⟨0,none,.box 22 [bC own]⟩)]⟩
def Ze0(aN:List aw)(w:Bool)(rl:List Hd)(z:Bool):List (Nat×En):=[Aq,Ap aN,(3,En.mk 0 none (Obj.arr (30:TypeId) w (dX aN))),VC rl,(5,En.mk 0 none (Obj.arr (30:TypeId) z (oJ rl))),VB rl,(7,En.mk 0 none (Obj.arr (30:TypeId) z (qQ rl)))]
theorem qip(l own:List ak)(on:List aw)(h:List Hd)(r:Int)(ae:PX×S->Prop):(∃(rY:List ak) (aN:List aw) (rl:List Hd),(iR rY/\mR aN/\Ud rl)/\(ZbH own,PX.normal,S.mk 69 HF (ZdS on h))=(ZbH rY,PX.normal,S.mk 69 HF (ZdS aN rl))/\(∀(z w:Bool) (s:aw),bs rl aN rY=some s->ae (PX.ret,S.mk 69 HF (xA s::Ze0 aN w rl z)))/\(∀(z w:Bool),bs rl aN rY=none->ae (PX.normal,S.mk 69 HF (qu::Ze0 aN w rl z)))/\ ∀(z w:Bool),bs rl aN rY=none->ae (PX.exit 2,S.mk 69 HF (qu::Ze0 aN w rl z)))=(xy [] [] (λfi yt=>if Nat.beq fi El&&Nat.beq yt 1 then [(1,ey (aL El 1) qfC)] else []) 17 9 2000000 OX (qio l own on h r)) ae:=by kernel_rfl
def qfD:S->K (PX×S):=λs ae=> ∃l own on h r,s=qio l own on h r/\(own.length<=1000000/\on.length<=1000000/\h.length<=1000000/\(h.map (·.1)).Nodup)/\(∀z w s,bs h on own=some s->ae (.ret,uw z w on h s 0))/\(∀z w,bs h on own=none->ae (.normal,uw z w on h (0,0) 0))/\(∀z w,bs h on own=none->ae (.exit 2,uw z w on h (0,0) 0))
def qfE:S->K (PX×S):=λs ae=> ∃l m r on,s=qa8 l m r on [] 0/\m.length<=1000000/\ ∀h,h=m.map fa->ae (.exit 0,qim l r on h)
def Ze2(kM:List ak)(bY:Int)(on:List aw)(h:List Hd)(o:List ak):S:=S.mk 69 [fE kM,ZF bY,kY,J3,Kj,VE,VD,(37,cS kM),(38,P.d (Zt bY)),(39,P.fn (101:FuncId) [P.ref 1039000 0 0])] [qu,Aq,Ap on,Mi on,VC h,(5,UN h),VB h,(7,UO h),(1039000,ZbK o)]
def Ze1(l:List ak)(r:Int)(m:List ak)(o:List aw):S:=S.mk 69 [fE l,ZF r,kY,J3,Kj,VE,VD,(20,P.sl 8 0 (dA m)),(21,Cl m),(22,P.d Z7)] [qu,Aq,Ap o,Mi o,(4,En.mk 0 none (Obj.box (51:TypeId) [P.sl 5 0 0])),(5,w8),(6,En.mk 0 none (Obj.box (51:TypeId) [P.sl 7 0 0])),(7,w8),(8,kz m)]
theorem qfF(l:List ak)(r:Int)(ae:P×List (Nat×En)->Prop):(∃(au:List ak),rn l au/\Zx/\jP au/\ ∀(o:List aw),o=JX au-> ∃(eX:List ak),rn l eX/\Zx/\jP eX/\ ∀(m:List ak),m=aC eX-> ∃(kM:List ak) (bO:List ak) (bY:Int) (on:List aw),Ze1 l r m o=Ze1 kM bY bO on/\iR bO/\ ∀(h:List Hd),h=List.map fa bO-> ∃(l:List ak) (r:Int),tc kM bY=tc l r/\Zx/\jP l/\ ∀(o:List ak),o=zr (aC l) r-> ∃(l:List ak) (own:List ak) (aN:List aw) (rl:List Hd) (r:Int),Ze2 kM bY on h o=Ze2 l r aN rl own/\(iR own/\mR aN/\Ud rl)/\(∀(_ _:Bool) (s:aw),bs rl aN own=some s->ZbM ae s)/\(∀(_ _:Bool),bs rl aN own=none->ZbN ae)/\ ∀(_ _:Bool),bs rl aN own=none->ZbN ae)=(sH [(30,nE),(36,Uo)] [(35,Kh)] [(3,ah (aL 17 3) qfE),(500009,qfD)] 17 [bC l,iD r] []) ae:=by kernel_rfl
section
variable{X:XF}{w0:World}(hX:dC PR w0 X.cf)
include hX
theorem qkd:LN w0 17 3 (ah (aL 17 3) qfE):=LN.idx hX (H:=[]) (HN:=[]) (hk:=[]) EJ (by kernel_rfl) (by kernel_rfl) (by kernel_rfl) .nil .nil .nil
 (A:=List ak×List ak×Int×List aw) (B:=List Hd) (λa h i=>qa8 a.1 a.2.1 a.2.2.1 a.2.2.2 h i) (λa=>a.2.1.length) (λa i h=>a.2.1.length<=1000000/\h=(a.2.1.take i).map fa)
 (λa x=>x=(.exit 0,qim a.1 a.2.2.1 a.2.2.2 (a.2.1.map fa)))
 (by
  rintro⟨l,m,r,on⟩ h i ae h0 bR aY ⟨hm,hh⟩ hn ho
  try dsimp only at*
  (rw[<-qin];delta qQ UO fg VB oJ UN VC dX pd Mi dR Ap Z7 mr OO Aq rb qu ZdS VD VE s6 Kj iQ J3 bT kY HF cr kz Zg fJ Wb Zcg my nO sI Zch Zn dA gX Cl Zt ZF cS fE Za Z9 Zj Zcf Zce cK eD iA ki xx)
  have e1:D.nth (m.map aQ) i.toNat=aQ m[i.toNat]:=ay _ _ _ aY;have hl:h.length<=1000000:=by rw[hh,zaa,zay];omega
  have mb:(m.take (i.toNat+1)).map fa=h++[fa m[i.toNat]]:=by rw[zag aY,zaB,hh];rfl
  rw[e1];generalize m[i.toNat]=g at*
  have p1:List.take h.length ((h.map λx=>x.1).map bh)++[bh g.s]=((h++[fa g]).map λx=>x.1).map bh:=by rw[zah (by simp),zaB,zaB];rfl
  have p2:List.take h.length ((h.map λx=>x.2).map bh)++[bh g.bN]=((h++[fa g]).map λx=>x.2).map bh:=by rw[zah (by simp),zaB,zaB];rfl
  have hy:=hn (h++[fa g]) ⟨hm,mb.symm⟩;simp only[qa8,VA,mA,List.cons_append,zbi] at hy;rw[<-p1,<-p2,zan] at hy;simp only[zaa];refine bz bR (ao ⟨h0,bR⟩ (ao aY (aq (cY _) (aq ?_ (aq ?_ (ao (by omega) ?_))))))
  ·rw[zab];exact⟨by simp,ct hl (by omega)⟩
  ·rw[zab];exact⟨by simp,ct hl (by omega)⟩
  exact hy)
 (by
  rintro⟨l,m,r,on⟩ h i ae hi ⟨hm,hh⟩ ho
  try dsimp only at*
  (rw[<-qin];delta qQ UO fg VB oJ UN VC dX pd Mi dR Ap Z7 mr OO Aq rb qu ZdS VD VE s6 Kj iQ J3 bT kY HF cr kz Zg fJ Wb Zcg my nO sI Zch Zn dA gX Cl Zt ZF cS fE Za Z9 Zj Zcf Zce cK eD iA ki xx)
  refine kA (by omega) (ho _ (λh=>by cases h) ?_);rw[hh,zaj])
 (by rintro s ae ⟨l,m,r,on,rfl,hm,hp⟩;refine⟨(l,m,r,on),[],rfl,⟨hm,rfl⟩,?_⟩;rintro x rfl;exact hp _ rfl)
theorem qke:LY w0 17 9 1 El 1 (ey (aL El 1) qfC):=LY.par hX (H:=[(37,hEr),(38,Hr)]) (HN:=[]) (base:=2000000) (keep:=OX) EJ (.cons qjF (.cons qb5 .nil)) .nil (by kernel_rfl) (by kernel_rfl) (by kernel_rfl)
 (A:=List ak×List aw×List Hd) (B:=(Bool×Bool)×Int)
 (λa b=>(Ao a.1 b.2,(.normal,uw b.1.1 b.1.2 a.2.1 a.2.2 (0,0) 0)))
 (λa b=>(a.1.length<=1000000/\a.2.1.length<=1000000/\a.2.2.length<=1000000/\(a.2.2.map (·.1)).Nodup)/\(b.1.2=true->b.1.1=true)/\0<=b.2/\b.2.toNat<=a.1.length/\bs a.2.2 a.2.1 a.1=bs a.2.2 a.2.1 (a.1.drop b.2.toNat))
 (λa b=>((a.1.length:Int)-b.2).toNat)
 (λa x=>(∃z w s,bs a.2.2 a.2.1 a.1=some s/\x=(.ret,Wu a.1,(.ret,uw z w a.2.1 a.2.2 s 0)))\/(∃z w,bs a.2.2 a.2.1 a.1=none/\x=(.exit 0,Wu a.1,(.normal,uw z w a.2.1 a.2.2 (0,0) 0)))\/(∃z w,bs a.2.2 a.2.1 a.1=none/\x=(.ret,Wu a.1,(.exit 2,uw z w a.2.1 a.2.2 (0,0) 0))))
 (by
  rintro⟨own,on,h⟩ ⟨⟨z,w⟩,i⟩ ⟨hm,hzw,h0,hi,hu⟩
  try dsimp only at*
  have key: ∀(aY:i.toNat<own.length),bs h on own=if own[i.toNat].bN=(0,0) then none else if vr h own[i.toNat].s=true/\own[i.toNat].s∈on then some own[i.toNat].s else bs h on (own.drop (i+1).toNat):=λaY=>by rw[hu,zaY aY,show(i+1).toNat=i.toNat+1 by omega];rfl
  have AT: ¬i.toNat<own.length->bs h on own=none:=λaY=>by rw[hu,List.drop_of_length_le (by omega)];rfl
  have tk:List.take on.length (on.map bh)=on.map bh:=zah (by simp);have tk1:List.take h.length ((h.map λx=>x.1).map bh)=(h.map λx=>x.1).map bh:=zah (by simp);have tk2:List.take h.length ((h.map λx=>x.2).map bh)=(h.map λx=>x.2).map bh:=zah (by simp);rcases z with _ |_<;>rcases w with _ |_
  ·(rw[<-qka];delta qQ fg VB oJ VC ZdU dX pd Mi dR Ap Z7 mr OO Aq rb qu VD VE s6 Kj iQ J3 bT kY HF ZdY cr cS Ww Zn ZL eD D0 Wx UK Za Z9 Zj ZbB ZdV ZdW Zg fJ my nO OP Ki Ib mR Zx gV gW qe mP lN sI D2 UL ZdX ju mQ Ud ZdT ZdZ UO UN ZdS Ic cK kL qP)
   rw[zaa];refine b7 (λhp=> ?_) λhp=> .inr (.inl ⟨false,false,AT (by omega),rfl⟩);have aY:i.toNat<own.length:=by omega
   have e1:D.nth (own.map aQ) i.toNat=aQ own[i.toNat]:=ay _ _ _ aY;have key:=key aY;rw[e1,tk,tk1,tk2];generalize own[i.toNat]=g at*
   have u1:D.aj (D.ar (aQ g) 4)=g.bN.1:=rfl;have u2:D.aj (D.ar (aQ g) 5)=g.bN.2:=rfl;rw[u1,u2];refine ao ⟨h0,hp⟩ (aq (cY _) (az (λhb=> ?_) λhb=>⟨h,g.s,rfl,rfl,⟨hm.2.2.1,hm.2.2.2⟩,λe r ev hr=> ?_⟩))
   ·have hz:g.bN=(0,0):=by simp only[zbu,zab,zaT] at hb;exact zdg hb.1 hb.2
    exact .inr (.inr ⟨false,false,by rw[key,zao hz],rfl⟩)
   have hz: ¬g.bN=(0,0):=λhz=>by rw[hz] at hb;simp at hb
   have Ep:vr h g.s=(e==0&& !ev):=by unfold vr;rw[hr]
   rw[zal hz,Ep] at key;refine Ai (λhe=>az (λhv=>⟨on,g.s,rfl,rfl,hm.2.1,λb cm=> ?_⟩) λhv=>ao (by omega) ?_) λhe=>ao (by omega) ?_
   ·subst cm;have ho:(e==0&& !ev)=true:=by rw[hv];simp[he]
    refine b7 (λjt=> .inl ⟨true,true,g.s,by rw[key,zao ⟨ho,jt⟩],rfl⟩) λjt=>ao (by omega) ?_;exact⟨((own.length:Int)-(i+1)).toNat,by omega,((true,true),i+1),by simp only[Ao,zaa],⟨hm,λ_=>rfl,by show 0<=i+1;omega,by show(i+1).toNat<=_;omega,by show bs h on own=bs h on (own.drop (i+1).toNat);rw[key,zal (λhh=>jt hh.2)]⟩,rfl⟩
   ·exact⟨((own.length:Int)-(i+1)).toNat,by omega,((true,false),i+1),by simp only[Ao,zaa],⟨hm,λ_=>rfl,by show 0<=i+1;omega,by show(i+1).toNat<=_;omega,by show bs h on own=bs h on (own.drop (i+1).toNat);rw[key,zal (λhh=>by rw[hv,zca] at hh;cases hh.1)]⟩,rfl⟩
   exact⟨((own.length:Int)-(i+1)).toNat,by omega,((true,false),i+1),by simp only[Ao,zaa],⟨hm,λ_=>rfl,by show 0<=i+1;omega,by show(i+1).toNat<=_;omega,by show bs h on own=bs h on (own.drop (i+1).toNat);rw[key,zal (λhh=>he (by have:=hh.1;rw[zab] at this;simpa using this.1))]⟩,rfl⟩
  ·exact absurd (hzw rfl) (by decide)
  ·(rw[<-qkb];delta qQ fg VB oJ VC ZdU dX pd Mi dR Ap Z7 mr OO Aq rb qu VD VE s6 Kj iQ J3 bT kY HF ZdY cr cS Ww Zn ZL eD D0 Wx UK Za Z9 Zj ZbB ZdV ZdW Zg fJ my nO OP Ki Ib mR Zx gV gW qe mP lN sI D2 UL ZdX ju mQ Ud ZdT ZdZ Ic cK kL qP)
   rw[zaa];refine b7 (λhp=> ?_) λhp=> .inr (.inl ⟨true,false,AT (by omega),rfl⟩);have aY:i.toNat<own.length:=by omega
   have e1:D.nth (own.map aQ) i.toNat=aQ own[i.toNat]:=ay _ _ _ aY;have key:=key aY;rw[e1,tk,tk1,tk2];generalize own[i.toNat]=g at*
   have u1:D.aj (D.ar (aQ g) 4)=g.bN.1:=rfl;have u2:D.aj (D.ar (aQ g) 5)=g.bN.2:=rfl;rw[u1,u2];refine ao ⟨h0,hp⟩ (aq (cY _) (az (λhb=> ?_) λhb=>⟨h,g.s,rfl,rfl,⟨hm.2.2.1,hm.2.2.2⟩,λe r ev hr=> ?_⟩))
   ·have hz:g.bN=(0,0):=by simp only[zbu,zab,zaT] at hb;exact zdg hb.1 hb.2
    exact .inr (.inr ⟨true,false,by rw[key,zao hz],rfl⟩)
   have hz: ¬g.bN=(0,0):=λhz=>by rw[hz] at hb;simp at hb
   have Ep:vr h g.s=(e==0&& !ev):=by unfold vr;rw[hr]
   rw[zal hz,Ep] at key;refine Ai (λhe=>az (λhv=>⟨on,g.s,rfl,rfl,hm.2.1,λb cm=> ?_⟩) λhv=>ao (by omega) ?_) λhe=>ao (by omega) ?_
   ·subst cm;have ho:(e==0&& !ev)=true:=by rw[hv];simp[he]
    refine b7 (λjt=> .inl ⟨true,true,g.s,by rw[key,zao ⟨ho,jt⟩],rfl⟩) λjt=>ao (by omega) ?_;exact⟨((own.length:Int)-(i+1)).toNat,by omega,((true,true),i+1),by simp only[Ao,zaa],⟨hm,λ_=>rfl,by show 0<=i+1;omega,by show(i+1).toNat<=_;omega,by show bs h on own=bs h on (own.drop (i+1).toNat);rw[key,zal (λhh=>jt hh.2)]⟩,rfl⟩
   ·exact⟨((own.length:Int)-(i+1)).toNat,by omega,((true,false),i+1),by simp only[Ao,zaa],⟨hm,λ_=>rfl,by show 0<=i+1;omega,by show(i+1).toNat<=_;omega,by show bs h on own=bs h on (own.drop (i+1).toNat);rw[key,zal (λhh=>by rw[hv,zca] at hh;cases hh.1)]⟩,rfl⟩
   exact⟨((own.length:Int)-(i+1)).toNat,by omega,((true,false),i+1),by simp only[Ao,zaa],⟨hm,λ_=>rfl,by show 0<=i+1;omega,by show(i+1).toNat<=_;omega,by show bs h on own=bs h on (own.drop (i+1).toNat);rw[key,zal (λhh=>he (by have:=hh.1;rw[zab] at this;simpa using this.1))]⟩,rfl⟩
  ·(rw[<-qkc];delta qQ fg VB oJ VC ZdU dX ZbB dR Ap Z7 mr OO Aq rb qu VD VE s6 Kj iQ J3 bT kY HF ZdV cr cS Ww Zn ZL eD D0 Wx UK Za Z9 Zj ZdW Zg fJ my nO OP Ki Ib mR Zx gV gW qe mP lN sI D2 UL ZdX ju mQ Ud ZdT Ic cK kL qP)
   rw[zaa];refine b7 (λhp=> ?_) λhp=> .inr (.inl ⟨true,true,AT (by omega),rfl⟩);have aY:i.toNat<own.length:=by omega
   have e1:D.nth (own.map aQ) i.toNat=aQ own[i.toNat]:=ay _ _ _ aY;have key:=key aY;rw[e1,tk,tk1,tk2];generalize own[i.toNat]=g at*
   have u1:D.aj (D.ar (aQ g) 4)=g.bN.1:=rfl;have u2:D.aj (D.ar (aQ g) 5)=g.bN.2:=rfl;rw[u1,u2];refine ao ⟨h0,hp⟩ (aq (cY _) (az (λhb=> ?_) λhb=>⟨h,g.s,rfl,rfl,⟨hm.2.2.1,hm.2.2.2⟩,λe r ev hr=> ?_⟩))
   ·have hz:g.bN=(0,0):=by simp only[zbu,zab,zaT] at hb;exact zdg hb.1 hb.2
    exact .inr (.inr ⟨true,true,by rw[key,zao hz],rfl⟩)
   have hz: ¬g.bN=(0,0):=λhz=>by rw[hz] at hb;simp at hb
   have Ep:vr h g.s=(e==0&& !ev):=by unfold vr;rw[hr]
   rw[zal hz,Ep] at key;refine Ai (λhe=>az (λhv=>⟨on,g.s,rfl,rfl,hm.2.1,λb cm=> ?_⟩) λhv=>ao (by omega) ?_) λhe=>ao (by omega) ?_
   ·subst cm;have ho:(e==0&& !ev)=true:=by rw[hv];simp[he]
    refine b7 (λjt=> .inl ⟨true,true,g.s,by rw[key,zao ⟨ho,jt⟩],rfl⟩) λjt=>ao (by omega) ?_;exact⟨((own.length:Int)-(i+1)).toNat,by omega,((true,true),i+1),by simp only[Ao,zaa],⟨hm,λ_=>rfl,by show 0<=i+1;omega,by show(i+1).toNat<=_;omega,by show bs h on own=bs h on (own.drop (i+1).toNat);rw[key,zal (λhh=>jt hh.2)]⟩,rfl⟩
   ·exact⟨((own.length:Int)-(i+1)).toNat,by omega,((true,true),i+1),by simp only[Ao,zaa],⟨hm,λ_=>rfl,by show 0<=i+1;omega,by show(i+1).toNat<=_;omega,by show bs h on own=bs h on (own.drop (i+1).toNat);rw[key,zal (λhh=>by rw[hv,zca] at hh;cases hh.1)]⟩,rfl⟩
   exact⟨((own.length:Int)-(i+1)).toNat,by omega,((true,true),i+1),by simp only[Ao,zaa],⟨hm,λ_=>rfl,by show 0<=i+1;omega,by show(i+1).toNat<=_;omega,by show bs h on own=bs h on (own.drop (i+1).toNat);rw[key,zal (λhh=>he (by have:=hh.1;rw[zab] at this;simpa using this.1))]⟩,rfl⟩)
 (by
  rintro y ae ⟨own,on,h,h1,rfl,h2,h3,h4⟩;refine⟨(own,on,h),((false,false),0),rfl,⟨h1,by decide,zbz _,by simp,rfl⟩,?_⟩;rintro x (⟨z,w,s,h,rfl⟩| ⟨z,w,h,rfl⟩| ⟨z,w,h,rfl⟩)
  ·exact h2 z w s h
  ·exact h3 z w h
  exact h4 z w h)
theorem qkf:FN w0 17 9 qfD:=FN.mk hX (H:=[]) (HN:=[]) EJ .nil .nil (base:=2000000) (keep:=OX) (by kernel_rfl) (hk:=λfi yt=>if Nat.beq fi El&&Nat.beq yt 1 then [(1,ey (aL El 1) qfC)] else [])
 (by
  intro fi yt h Aj hl;split at hl
  next hb=>
   rw[zab] at hb;have e1:=zaf hb.1;have e2:=zaf hb.2;subst e1 e2;unfold lk at hl;split at hl
   next he=>have e3:=zaf he;subst e3;cases hl;exact⟨by kernel_rfl,qke hX⟩
   cases hl
  cases hl)
 (by
  rintro s ae ⟨l,own,on,h,r,rfl,hm,h1,h2,h3⟩
  (rw[<-qip];delta Z7 mr rb qu qQ fg VB oJ VC dX dR Ap OO Aq Ze0 gV gW uG xA UO UN pd Mi ZdS VD VE s6 Kj iQ J3 bT kY HF cr cS Ww sw eD D0 Wx ZbH mQ Ud mR dA iR)
  exact⟨own,on,h,hm,rfl,h1,h2,h3⟩)
def wH:bm:=λps R ae=> ∃l r,ps=[bC l,iD r]/\R=[]/\jP l/\ ∀a,a=qk l r->ae (stO a,[])
theorem qfG(hV:ND w0 35 Kh):ND w0 17 wH:=ND.mk hX (H:=[(30,nE),(36,Uo)]) (HN:=[(35,Kh)]) (hk:=[(3,ah (aL 17 3) qfE),(500009,qfD)]) EJ (by kernel_rfl) (by kernel_rfl) (.cons LJ (.cons qbW .nil)) (.cons hV .nil) (.loop (by decide) (qkd hX).T (.range (qkf hX) .nil)) (by
 intro ps R ae hh;obtain⟨l,r,rfl,rfl,hs,hp⟩:=hh
 (rw[<-qfF];delta Z7 ZbN mr gV gW qe ZbM fg mQ Ud dR mR cr cS ZbK qQ UO VB oJ UN VC dX pd Mi Ap OO Aq rb qu Zt VD VE s6 Kj iQ J3 bT kY ZF fE Ze2 Zv tc dA iR kz w8 gX Cl Ze1 Zx rn)
 have hl:=hs.1;have h1:=qW l;have h2:=cF l;have h3:(zr (aC l) r).length<=(aC l).length:=by rw[(vq _ _).length_eq];exact zaU _ _
 have kS:=DS l;refine⟨l,rfl,rfl,hs,λo ho=>⟨l,rfl,rfl,hs,λm hm=>⟨l,m,r,o,rfl,by rw[hm];omega,λh hh=>⟨l,r,rfl,rfl,hs,λow how=>⟨l,ow,o,h,r,rfl,⟨by rw[how];omega,by rw[ho];omega,by rw[hh,zaa,hm];omega,by rw[hh,hm];exact kS⟩,λ_ _ s hr=> ?_,λ_ _ hr=> ?_,λ_ _ hr=> ?_⟩⟩⟩⟩⟩
 ·have e:h=oG l:=by rw[hh,hm];rfl
  exact hp (s,0) (by unfold qk;rw[<-ho,<-how,<-e,hr];rfl)
 ·have e:h=oG l:=by rw[hh,hm];rfl
  exact hp ((0,0),200) (by unfold qk;rw[<-ho,<-how,<-e,hr];rfl)
 have e:h=oG l:=by rw[hh,hm];rfl
 exact hp ((0,0),200) (by unfold qk;rw[<-ho,<-how,<-e,hr];rfl))
end
end Pi
namespace Pi
open Go Go.Proofs Go.RowKit Go.Proofs.YtngoddkencoalaaGreatDoor
set_option maxRecDepth 100000
abbrev r0:List (String×DataW Unit):=[("unicode/utf8.acceptRanges",Rows.laid_unicode_utf8_acceptRanges),("unicode/utf8.first",Rows.laid_unicode_utf8_first)]
theorem HG(w:World)(h:laidMetH Tryz.prog r0 w):laidMet Tryz.prog r0 w:=by
 unfold laidMetH at h;have e:(r0.filter λx=>x.2.handleName?.isSome)=[]:=by kernel_rfl
 rw[e] at h;exact h
theorem qa9(w:World)(h:laidMet Tryz.prog r0 w):laidMetH Tryz.prog r0 w:=by
 unfold laidMetH;have e:(r0.filter λx=>x.2.handleName?.isSome)=[]:=by kernel_rfl
 rw[e];exact h
theorem qiq:(Rows.laid_unicode_utf8_first:DataW Unit)=Lib.firstData:=by kernel_rfl
theorem qir:(Rows.laid_unicode_utf8_acceptRanges:DataW Unit)=Lib.acceptData:=by kernel_rfl
def qkg:Go.Shelf.Ren:=⟨λn=>n,λ|5=>5 |119=>242 |138=>244 |139=>245 |n=>n,λ|3=>0 |4=>1 |n=>n⟩
theorem qis{W:World}(h:laidMet Tryz.prog r0 W):Lib.Utf8Tabs 0 1 W:=
 utf8Tabs_of_readsT (ρ:=qkg) ⟨by kernel_rfl,by kernel_rfl,by kernel_rfl,by kernel_rfl⟩ ⟨by kernel_rfl,by kernel_rfl,by kernel_rfl,by kernel_rfl,by kernel_rfl,by kernel_rfl,by kernel_rfl⟩
  (by rw[<-qiq];exact Lib.laidMet.reads h (.tail _ (.head _)))
  (by rw[<-qir];exact Lib.laidMet.reads h (.head _))
theorem qfH{W:World}(h0:laidMetH Tryz.prog r0 W)(hs:W.ShapedOpen Tryz.prog):StW W:=by have h:=HG W h0;refine⟨?_,qis h⟩;exact cell_of_shapedOpen_int (zero:= #[.int .i64 0]) (t:=3) hs (zbJ (by kernel_rfl)) (by kernel_rfl) rfl (by kernel_rfl) (by kernel_rfl) Tryz.underlying3
noncomputable def wL(os:Os):World:=World.laidAll Tryz.prog os r0
theorem qfI(os:Os)(args:Array Value):laidMet Tryz.prog r0 ((wL os).forCall (λ_ _=>0) ⟨#[],args,[]⟩).memory:=
 laidMet_laidAll _ (by kernel_rfl) (by kernel_rfl)
open Classical in
noncomputable def ux:TF:=λps R=>if h: ∃a:List ak×Int,ps=[bC a.1,iD a.2]/\R=[]/\jP a.1 then some (stO (rS h.choose.1 h.choose.2),[]) else none
open Classical in
noncomputable def uy:TF:=λps R=>if h: ∃a:List ak×Int,ps=[bC a.1,iD a.2]/\R=[]/\jP a.1 then some (stO (qk h.choose.1 h.choose.2),[]) else none
theorem Kx{ps:List P}{R:List (Nat×En)}{y:P×List (Nat×En)}(h:ux ps R=some y):wG ps R (λz=>z=y):=by
 unfold ux at h;split at h
 next e=>obtain⟨h1,h2,h3⟩:=e.choose_spec;exact⟨e.choose.1,e.choose.2,h1,h2,h3,λa ha=>by rw[ha];exact zb2 h⟩
 cases h
theorem Ky{ps:List P}{R:List (Nat×En)}{y:P×List (Nat×En)}(h:uy ps R=some y):wH ps R (λz=>z=y):=by
 unfold uy at h;split at h
 next e=>obtain⟨h1,h2,h3⟩:=e.choose_spec;exact⟨e.choose.1,e.choose.2,h1,h2,h3,λa ha=>by rw[ha];exact zb2 h⟩
 cases h
theorem Mq{l m:List ak}{r s:Int}(h:[bC l,iD r]=[bC m,iD s]):l=m/\r=s:=by
 have c:l.map aQ=m.map aQ/\r=s:=by simpa using h
 exact⟨zJ qbV c.1,c.2⟩
theorem Kz{ps:List P}{R:List (Nat×En)}{ae:P×List (Nat×En)->Prop}(h:wG ps R ae): ∃x,ux ps R=some x/\ae x:=by
 obtain⟨l,r,h1,h2,h3,hp⟩:=h;have e: ∃a:List ak×Int,ps=[bC a.1,iD a.2]/\R=[]/\jP a.1:=⟨(l,r),h1,h2,h3⟩
 obtain⟨c1,_,_⟩:=e.choose_spec;obtain⟨e1,e2⟩:=Mq (h1.symm.trans c1);refine⟨_,?_,hp _ rfl⟩;unfold ux;rw[dif_pos e,<-e1,<-e2]
theorem KA{ps:List P}{R:List (Nat×En)}{ae:P×List (Nat×En)->Prop}(h:wH ps R ae): ∃x,uy ps R=some x/\ae x:=by
 obtain⟨l,r,h1,h2,h3,hp⟩:=h;have e: ∃a:List ak×Int,ps=[bC a.1,iD a.2]/\R=[]/\jP a.1:=⟨(l,r),h1,h2,h3⟩
 obtain⟨c1,_,_⟩:=e.choose_spec;obtain⟨e1,e2⟩:=Mq (h1.symm.trans c1);refine⟨_,?_,hp _ rfl⟩;unfold uy;rw[dif_pos e,<-e1,<-e2]
structure XT(X:XF):Prop where
 bN: ∀ps R,X.cf 19 ps R=ux ps R
 qkh: ∀ps R,X.cf 17 ps R=uy ps R
theorem Mr{X:XF}(hX:XT X):FD X 19 wG:=O4.tR Tryz.func19 (by kernel_rfl) λps R ae h=>by obtain⟨x,h1,h2⟩:=Kz h;exact⟨x,by rw[<-h1];exact hX.bN ps R,h2⟩
theorem Ms{X:XF}(hX:XT X):FD X 17 wH:=O4.tR Tryz.func17 (by kernel_rfl) λps R ae h=>by obtain⟨x,h1,h2⟩:=KA h;exact⟨x,by rw[<-h1];exact hX.qkh ps R,h2⟩
noncomputable def Mt:XF:=⟨xOf ((19,ux)::(17,uy)::xL),λf hf ps R=>by
 show(if Nat.beq 19 f then ux ps R else if Nat.beq 17 f then uy ps R else xB f ps R)=_;split
 next he=>
  have:=zaf he;subst this;have h0:gY 19 xsB=false:=by kernel_rfl
  rw[h0] at hf;cases hf
 split
 next he=>
  have:=zaf he;subst this;have h0:gY 17 xsB=false:=by kernel_rfl
  rw[h0] at hf;cases hf
 rfl⟩
theorem qba:XT Mt:=⟨λ_ _=>rfl,λ_ _=>rfl⟩
theorem VF{w1:World}(hw1:StW w1):dC Tryz.prog {w1 with drawn:=0} Mt.cf:=by
 have h0:=qgj hw1;have hU:Nl Tryz.prog {w1 with drawn:=0} 19 ux:=Nl.ofN (qe5 (X:=Li) h0 (qb7 (X:=Li) h0)) λps R y h=>Kx h;have hR:Nl Tryz.prog {w1 with drawn:=0} 17 uy:=Nl.ofN (qfG (X:=Li) h0 (qb7 (X:=Li) h0)) λps R y h=>Ky h;intro f ps R p R1 h';have h':(if Nat.beq 19 f then ux ps R else if Nat.beq 17 f then uy ps R else xB f ps R)=some (p,R1):=h';split at h'
 next hf=>have hf:=zaf hf;subst hf;exact hU rfl ps R p R1 h'
 split at h'
 next hf=>have hf:=zaf hf;subst hf;exact hR rfl ps R p R1 h'
 exact h0 f ps R p R1 h'
end Pi
