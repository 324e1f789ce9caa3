/- The texts Ef2 Ef2H Ef3 Ef3H VwP TrC T6 T6H T7 T7H T8 T8H T9 T9H RfP Rd RdH Ef4 Ef4H Ef5 Ef5H Ef6H Hi2 Hi2H Hi3 Hi3H Hi4 Hi4H Hi5 Hi5H UtP Vw1 Vw1H. -/
import Derived.Test.YtngoddkencoalaaGreatDoorEbu
import Derived.Lib.IndexAny
namespace Pi
open Go Go.Proofs
set_option maxRecDepth 100000
set_option maxHeartbeats 0
abbrev fBk:Nat:=153
abbrev bkI(hs:List Hd)(i:Int):S:=⟨19,[(0,.mp 0 0),(1,.ref 1 0 0),(3,iD i)],[(0,⟨0,some 1,.eE⟩),(1,⟨0,some 0,.box 128 [.d (.sl 4 (hs.map bI))]⟩)]⟩
abbrev bkE(hs:List Hd):S:=⟨19,[(0,.mp 0 0),(1,.ref 1 0 0)],[(0,⟨0,some 1,.eE⟩),(1,⟨0,some 0,.box 128 [.d (.sl 4 (hs.map bI))]⟩)]⟩
abbrev onC(out:List aw)(n:Nat)(f:D->Option D)(c:Int):S:=
 ⟨37,[(5,.ref 0 0 0),(6,.ref 2 0 0)],[(0,⟨0,none,.box 51 [.sl 1 0 n]⟩),(1,⟨0,none,.arr 30 false (out.map bh)⟩),(2,⟨0,none,.box 98 [.mp 3 0]⟩),(3,⟨0,none,mpS f c⟩)]⟩
abbrev YH:Option (List Nat×List Nat):=some ([5,6],[5,6])
theorem YI(hs:List Hd)(out:List aw)(n:Nat)(f:D->Option D)(c:Int)(i:Int)(ae:PX×S×PX×S->Prop):(bif decide (i>=(0:Int)) then bif decide ((0:Int)<=i/\i<(↑(List.length (List.map bI hs)):Int)) then bif cx PR 132 (D.nth (List.map bI hs) (Int.toNat i)) then bif cx PR 3 (cL (f (D.agg [D.int IntKind.i64 (D.aj (D.ar (D.nth (List.map bI hs) (Int.toNat i)) 0)),D.int IntKind.i64 (D.aj (D.ar (D.nth (List.map bI hs) (Int.toNat i)) 1))])) (D.int IntKind.i64 (0:Int))) then bif decide (D.aj (cL (f (D.agg [D.int IntKind.i64 (D.aj (D.ar (D.nth (List.map bI hs) (Int.toNat i)) 0)),D.int IntKind.i64 (D.aj (D.ar (D.nth (List.map bI hs) (Int.toNat i)) 1))])) (D.int IntKind.i64 (0:Int)))>(0:Int)) then bif decide ((-9223372036854775808:Int)<=i-(1:Int)/\i-(1:Int)<=(9223372036854775807:Int)) then ae (PX.normal,S.mk 19 [(0,P.mp 0 0),(1,P.ref 1 0 0),(3,P.d (D.int IntKind.i64 (i-(1:Int))))] [(0,En.mk 0 (some 1) Obj.eE),(1,En.mk 0 (some 0) (Obj.box 128 [P.d (D.sl 4 (List.map bI hs))]))],PX.normal,S.mk 37 [(5,P.ref 0 0 0),(6,P.ref 2 0 0)] [(0,En.mk 0 none (Obj.box 51 [P.sl 1 0 n])),(1,En.mk 0 none (Obj.arr 30 false (List.map bh out))),(2,En.mk 0 none (Obj.box 98 [P.mp 3 0])),(3,En.mk 0 none (Obj.map 30 f c false))]) else False else bif Nat.ble n (List.length (List.map bh out))&&aO (n+List.length [D.agg [D.int IntKind.i64 (D.aj (D.ar (D.nth (List.map bI hs) (Int.toNat i)) 0)),D.int IntKind.i64 (D.aj (D.ar (D.nth (List.map bI hs) (Int.toNat i)) 1))]]) 16 then bif cx PR 3 (cL (f (D.agg [D.int IntKind.i64 (D.aj (D.ar (D.nth (List.map bI hs) (Int.toNat i)) 2)),D.int IntKind.i64 (D.aj (D.ar (D.nth (List.map bI hs) (Int.toNat i)) 3))])) (D.int IntKind.i64 (0:Int))) then bif decide ((-9223372036854775808:Int)<=D.aj (cL (f (D.agg [D.int IntKind.i64 (D.aj (D.ar (D.nth (List.map bI hs) (Int.toNat i)) 2)),D.int IntKind.i64 (D.aj (D.ar (D.nth (List.map bI hs) (Int.toNat i)) 3))])) (D.int IntKind.i64 (0:Int)))+(1:Int)/\D.aj (cL (f (D.agg [D.int IntKind.i64 (D.aj (D.ar (D.nth (List.map bI hs) (Int.toNat i)) 2)),D.int IntKind.i64 (D.aj (D.ar (D.nth (List.map bI hs) (Int.toNat i)) 3))])) (D.int IntKind.i64 (0:Int)))+(1:Int)<=(9223372036854775807:Int)) then bif decide ((-9223372036854775808:Int)<=i-(1:Int)/\i-(1:Int)<=(9223372036854775807:Int)) then ae (PX.normal,S.mk 19 [(0,P.mp 0 0),(1,P.ref 1 0 0),(3,P.d (D.int IntKind.i64 (i-(1:Int))))] [(0,En.mk 0 (some 1) Obj.eE),(1,En.mk 0 (some 0) (Obj.box 128 [P.d (D.sl 4 (List.map bI hs))]))],PX.normal,S.mk 37 [(5,P.ref 0 0 0),(6,P.ref 2 0 0)] [(0,En.mk 0 none (Obj.box 51 [P.sl 1 0 (n+List.length [D.agg [D.int IntKind.i64 (D.aj (D.ar (D.nth (List.map bI hs) (Int.toNat i)) 0)),D.int IntKind.i64 (D.aj (D.ar (D.nth (List.map bI hs) (Int.toNat i)) 1))]])])),(1,En.mk 0 none (Obj.arr 30 false (List.take n (List.map bh out)++[D.agg [D.int IntKind.i64 (D.aj (D.ar (D.nth (List.map bI hs) (Int.toNat i)) 0)),D.int IntKind.i64 (D.aj (D.ar (D.nth (List.map bI hs) (Int.toNat i)) 1))]]))),(2,En.mk 0 none (Obj.box 98 [P.mp 3 0])),(3,En.mk 0 none (Obj.map 30 (λ(k':D)=>bif D.oO (D.agg [D.int IntKind.i64 (D.aj (D.ar (D.nth (List.map bI hs) (Int.toNat i)) (0+1+1))),D.int IntKind.i64 (D.aj (D.ar (D.nth (List.map bI hs) (Int.toNat i)) (0+1+1+1)))]) k' then some (D.int IntKind.i64 (D.aj (cL (f (D.agg [D.int IntKind.i64 (D.aj (D.ar (D.nth (List.map bI hs) (Int.toNat i)) (0+1+1))),D.int IntKind.i64 (D.aj (D.ar (D.nth (List.map bI hs) (Int.toNat i)) (0+1+1+1)))])) (D.int IntKind.i64 (0:Int)))+(1:Int))) else df (D.agg [D.int IntKind.i64 (D.aj (D.ar (D.nth (List.map bI hs) (Int.toNat i)) (0+1+1))),D.int IntKind.i64 (D.aj (D.ar (D.nth (List.map bI hs) (Int.toNat i)) (0+1+1+1)))]) (cL (f (D.agg [D.int IntKind.i64 (D.aj (D.ar (D.nth (List.map bI hs) (Int.toNat i)) (0+1+1))),D.int IntKind.i64 (D.aj (D.ar (D.nth (List.map bI hs) (Int.toNat i)) (0+1+1+1)))])) (D.int IntKind.i64 (0:Int))) f k') (bif Option.isSome (f (D.agg [D.int IntKind.i64 (D.aj (D.ar (D.nth (List.map bI hs) (Int.toNat i)) 2)),D.int IntKind.i64 (D.aj (D.ar (D.nth (List.map bI hs) (Int.toNat i)) 3))])) then c else c+(1:Int)) false))]) else False else False else False else False else False else False else False else ae (PX.exit 0,S.mk 19 [(0,P.mp 0 0),(1,P.ref 1 0 0)] [(0,En.mk 0 (some 1) Obj.eE),(1,En.mk 0 (some 0) (Obj.box 128 [P.d (D.sl 4 (List.map bI hs))]))],PX.normal,S.mk 37 [(5,P.ref 0 0 0),(6,P.ref 2 0 0)] [(0,En.mk 0 none (Obj.box 51 [P.sl 1 0 n])),(1,En.mk 0 none (Obj.arr 30 false (List.map bh out))),(2,En.mk 0 none (Obj.box 98 [P.mp 3 0])),(3,En.mk 0 none (Obj.map 30 f c false))]))=(mz [] [] 94 4 2000000 YH 1 fBk 1 (bkI hs i,(.normal,onC out n f c))) ae:=by kernel_rfl
def Cd(l:List Hd):List Hd:=LB l.reverse []
theorem SO(h:Hd)(l:List Hd):Cd (h::l)=Sp (Cd l) h:=by simp[Cd,LB]
theorem LR(l:List Hd):(Cd l).length<=l.length:=by simpa [Cd] using uc l.reverse []
theorem qg1(l:List Hd):Yq l=((Cd (wY l)).map (·.1)).reverse:=rfl
def jL(l:List Hd):List aw:=(l.map (·.2)).reverse
theorem SP(l:List Hd):(jL l).length=l.length:=by simp[jL]
theorem N1(l:List Hd)(h:Hd):jL (l++[h])=h.2::jL l:=by simp[jL]
theorem SQ(l:List Hd)(x:aw):x∈jL l↔(l.any λy=>y.2==x)=true:=by simp[jL,zby]
def gOn:zx:=λy ae=> ∃hs:List Hd,hs.length<=1000000/\(∃i:Int,i=(hs.length:Int)-1/\y=(bkI hs i,(.normal,onC [] 0 (λ_=>none) 0)))/\
 ∀c o f,o=Cd hs->f=cM (jL o)->ae (.exit 0,bkE hs,(.normal,onC (o.map (·.1)) o.length f c))
section
variable{X:XF}{w0:World}(hX:dC PR w0 X.cf)
include hX
theorem qjm:LY w0 94 4 1 fBk 1 (ey (aL fBk 1) gOn):=LY.par hX (H:=[]) (HN:=[]) (base:=2000000) (keep:=YH) EJ .nil .nil (by kernel_rfl) (by kernel_rfl) (by kernel_rfl)
 (A:=List Hd) (B:=Nat×Int×Int)
 (λhs b=>(bkI hs b.2.1,(.normal,onC ((Cd (hs.drop b.1)).map (·.1)) (Cd (hs.drop b.1)).length (cM (jL (Cd (hs.drop b.1)))) b.2.2)))
 (λhs b=>hs.length<=1000000/\b.1<=hs.length/\b.2.1=(b.1:Int)-1)
 (λ_ b=>b.1)
 (λhs x=> ∃c,x=(.exit 0,bkE hs,(.normal,onC ((Cd hs).map (·.1)) (Cd hs).length (cM (jL (Cd hs))) c)))
 (by
  rintro hs ⟨k,i,c⟩ ⟨hm,hk,hi⟩;dsimp only at*
  rw[<-YI];cases k with
  |zero=>refine kA (by omega) ?_;exact⟨c,rfl⟩
  |succ k=>
   have bG:k<hs.length:=by omega
   have VU:i.toNat=k:=by omega
   have hl:=LR (hs.drop (k+1));have hd:hs.drop k=hs[k]::hs.drop (k+1):=zaY bG;have hdl:(hs.drop (k+1)).length<=1000000:=by simp;omega
   have e1:D.nth (hs.map bI) i.toNat=bI hs[k]:=by rw[VU];exact ay _ _ _ bG
   rw[e1];have ho:Cd (hs.drop k)=Sp (Cd (hs.drop (k+1))) hs[k]:=by rw[hd,SO]
   generalize hs[k]=h at ho;generalize Cd (hs.drop (k+1))=on at ho hl;have v1: ∀n:Int,D.aj (iE n)=n:=λ_=>rfl;have t1:D.agg [D.int .i64 (D.aj (D.ar (bI h) 0)),D.int .i64 (D.aj (D.ar (bI h) 1))]=bh h.1:=rfl;have t2:D.agg [D.int .i64 (D.aj (D.ar (bI h) 2)),D.int .i64 (D.aj (D.ar (bI h) 3))]=bh h.2:=rfl;have g0:cL (cM (jL on) (bh h.1)) (.int .i64 0)=iE ((jL on).count h.1:Int):=ql _ _;have g2:cL (cM (jL on) (bh h.2)) (.int .i64 0)=iE ((jL on).count h.2:Int):=ql _ _;have u3:=λz=>DY (jL on) h.2 z;have AP:(jL on).count h.1>0↔(on.any λy=>y.2==h.1)=true:=by rw[<-SQ];exact List.count_pos_iff
   have c1:=zbW (a:=h.1) (l:=jL on);have c2:=zbW (a:=h.2) (l:=jL on);rw[SP] at c1 c2;have qdI:((jL on).count h.1:Int)>0↔(on.any λy=>y.2==h.1)=true:=by rw[<-AP];omega
   have hcb:0<=((jL on).count h.2:Int)/\((jL on).count h.2:Int)<=1000000:=by omega
   rw[t1,t2,g0,g2,zaa];generalize ((jL on).count h.1:Int)=n1 at qdI⊢;generalize ((jL on).count h.2:Int)=n2 at u3 hcb⊢;simp only[v1,zap,zat,zaF];refine bz (by omega) (ao ⟨by omega,by omega⟩ (aq (YF _) (aq (A7 _) (b7 (λhu=>ao (by omega) ?_) λhu=>aq ?_ (aq (A7 _) (ao (by omega) (ao (by omega) ?_)))))))
   ·refine⟨k,zbY k,(k,i-1,c),?_,⟨hm,by show k<=hs.length;omega,by show i-1=(k:Int)-1;omega⟩,rfl⟩;rw[ho,Sp,zao (qdI.1 hu)]
   ·rw[zab];exact⟨by simp,ct (by omega) (by omega)⟩
   rw[u3];refine⟨k,zbY k,(k,i-1,bif (cM (jL on) (bh h.2)).isSome then c else c+1),?_,⟨hm,by show k<=hs.length;omega,by show i-1=(k:Int)-1;omega⟩,rfl⟩;dsimp only;have e:List.take on.length ((on.map (·.1)).map bh)++[bh h.1]=(on.map (·.1)++[h.1]).map bh:=by rw[zah (by simp),zaB];rfl
   rw[e,ho,Sp,zal (λh=>hu (qdI.2 h)),N1,zan,show(on++[h]).map (λx:Hd=>x.1)=on.map (·.1)++[h.1] from zaB];rfl)
 (by
  rintro y ae ⟨hs,h1,⟨i,hi,rfl⟩,h2⟩;refine⟨hs,(hs.length,i,0),?_,⟨h1,zak _,hi⟩,?_⟩
  ·dsimp only;rw[zcB,show jL (Cd [])=[] from rfl,DX];rfl
  rintro x ⟨c,rfl⟩;exact h2 c _ _ rfl rfl)
end
abbrev onA(l m:List Hd):S:=⟨37,[(0,w6 l),(1,w7 l),(4,.sl 1004 0 0),(5,.ref 1005 0 0),(6,.ref 1006 0 0),(9,.sl 1009 0 0),(10,.mp 1010 0),(11,w6 l),(12,w7 l),(13,.sl 1013000 0 m.length),(14,.fn fBk [.ref 1014000 0 0])],
 [(1004,⟨0,none,.arr 30 false []⟩),(1005,⟨0,none,.box 51 [.sl 1009 0 0]⟩),(1006,⟨0,none,.box 98 [.mp 1010 0]⟩),(1009,⟨0,none,.arr 30 false []⟩),(1010,⟨0,none,.map 30 (λ_=>none) 0 false⟩),(1005000,⟨0,none,.arr 30 false []⟩),(1013000,⟨0,none,arH true m⟩),(1014000,⟨0,none,.box 128 [.d (.sl 4 (List.take m.length (m.map bI)))]⟩)]⟩
theorem YJ(l m:List Hd)(ae:PX×S->Prop):(bif decide ((-9223372036854775808:Int)<=(↑(List.length (List.take (List.length m) (List.map bI m))):Int)-(1:Int)/\(↑(List.length (List.take (List.length m) (List.map bI m))):Int)-(1:Int)<=(9223372036854775807:Int)) then∃(hs:List Hd),List.length hs<=1000000/\(∃(i:Int),i=(↑(List.length hs):Int)-(1:Int)/\(S.mk 19 [(0,P.mp 0 0),(1,P.ref 1 0 0),(3,P.d (D.int IntKind.i64 ((↑(List.length (List.take (List.length m) (List.map bI m))):Int)-(1:Int))))] [(0,En.mk 0 (some 1) Obj.eE),(1,En.mk 0 (some 0) (Obj.box 128 [P.d (D.sl 4 (List.take (List.length m) (List.map bI m)))]))],PX.normal,S.mk 37 [(5,P.ref 0 0 0),(6,P.ref 2 0 0)] [(0,En.mk 0 none (Obj.box 51 [P.sl 1 0 0])),(1,En.mk 0 none (Obj.arr 30 false [])),(2,En.mk 0 none (Obj.box 98 [P.mp 3 0])),(3,En.mk 0 none (Obj.map 30 (λ(_:D)=>none) (0:Int) false))])=(S.mk 19 [(0,P.mp 0 0),(1,P.ref 1 0 0),(3,P.d (D.int IntKind.i64 i))] [(0,En.mk 0 (some 1) Obj.eE),(1,En.mk 0 (some 0) (Obj.box 128 [P.d (D.sl 4 (List.map bI hs))]))],PX.normal,S.mk 37 [(5,P.ref 0 0 0),(6,P.ref 2 0 0)] [(0,En.mk 0 none (Obj.box 51 [P.sl 1 0 0])),(1,En.mk 0 none (Obj.arr 30 false [])),(2,En.mk 0 none (Obj.box 98 [P.mp 3 0])),(3,En.mk 0 none (Obj.map 30 (λ(_:D)=>none) (0:Int) false))]))/\ ∀(c:Int) (o:List Hd) (f:D->Option D),o=Cd hs->f=cM (jL o)->ae (PX.normal,S.mk 37 [(5,P.ref 0 0 0),(6,P.ref 2 0 0)] [(0,En.mk 0 none (Obj.box 51 [P.sl 1 0 (List.length o)])),(1,En.mk 0 none (Obj.arr 30 false (List.map bh (List.map (λ(x:Hd)=>Prod.fst x) o)))),(2,En.mk 0 none (Obj.box 98 [P.mp 3 0])),(3,En.mk 0 none (Obj.map 30 f c false))]) else False)=(xy [] [] (λfi yt=>if Nat.beq fi fBk&&Nat.beq yt 1 then [(1,ey (aL fBk 1) gOn)] else []) 94 4 2000000 YH (onA l m)) ae:=by kernel_rfl
abbrev mA(z:Bool)(l:List aw):Obj:= .arr 30 z (l.map bh)
def qdJ:S->K (PX×S):=λs ae=> ∃l m,s=onA l m/\m.length<=1000000/\ ∀c o f,o=Cd m->ae (.normal,onC (o.map (·.1)) o.length f c)
def SR:bm:=λps R ae=> ∃l:List aw,ps=[.sl 0 0 l.length]/\R=[(0,⟨0,some 0,mA false l⟩)]/\l.length<=1000000/\ ∀l',l'=l.reverse->ae (.cT [],[(0,⟨0,some 0,mA false l'⟩)])
abbrev rvH(n:Nat)(l:List aw)(i j:Int):S:=⟨28,[(0,.sl 0 0 n),(2,iD i),(3,iD j)],[(0,⟨0,some 0,mA false l⟩)]⟩
def SS(l:List aw):Nat×En:=(0,En.mk 0 (some 0) (Obj.arr (30:TypeId) false (dX l)))
def EK(l:List aw):List (Nat×En):=[SS l]
def rV(n:Nat):Nat×P:=(0,ZB n)
def Z6d(l:List aw)(i:Int)(j:Int):List D:=List.set (dX l) (Zg i) (D.aV (D.agg (A4 l i)) (A4 l j))
def LS(j:Int)(l:List aw):Bool:=decide (Zg j<List.length (dX l))
def lY(j:Int)(n:Nat):Bool:=decide ((0:Int)<=j/\j<(↑n:Int))
theorem qg2(n:Nat)(l:List aw)(i j:Int)(ae:PX×S->Prop):(bif ZI i j then bif lY j n then bif LS j l then bif uD l j then bif lY i n then bif LS i l then bif uD l i then bif lY i n then bif LS i l then bif uD l i then bif lY j n then bif decide (Zg j<List.length (Z6d l i j)) then bif cx PR (30:TypeId) (D.nth (Z6d l i j) (Zg j)) then bif Zj i then bif Zb j then ae (PX.normal,S.mk 28 [rV n,(2,P.d (Zn i)),(3,Zs j)] [(0,En.mk 0 (some 0) (Obj.arr (30:TypeId) false (List.set (Z6d l i j) (Zg j) (D.aV (D.agg [D.int .i64 (D.aj (D.ar (D.nth (Z6d l i j) (Zg j)) 0)),D.int .i64 (D.aj (D.ar (D.nth (Z6d l i j) (Zg j)) 1))]) (A4 l i)))))]) else False else False else False else False else False else False else False else False else False else False else False else False else False else False else ae (PX.exit 0,S.mk 28 [rV n] (EK l)))=(aD [] [] 123 1 (rvH n l i j)) ae:=by kernel_rfl
def gRv:S->K (PX×S):=λst ae=> ∃(l:List aw) (n:Nat) (j:Int),st=rvH n l 0 j/\(n=l.length/\j=(n:Int)-1/\n<=1000000)/\ae (.exit 0,⟨28,[(0,.sl 0 0 n)],[(0,⟨0,some 0,mA false l.reverse⟩)]⟩)
theorem qjn(n:Nat)(l:List aw)(ae:P×List (Nat×En)->Prop):(bif decide (Z9<=(↑n:Int)-(1:Int)/\(↑n:Int)-(1:Int)<=Za) then∃(au:List aw) (cz:Nat) (j:Int),S.mk 28 [rV n,(2,P.d Z7),(3,P.d (D.int .i64 ((↑n:Int)-(1:Int))))] (EK l)=S.mk 28 (rV cz::(2,P.d Z7)::Zu j) (EK au)/\(cz=dR au/\j=(↑cz:Int)-(1:Int)/\cz<=1000000)/\ae (P.cT [],[(0,En.mk 0 (some 0) (Obj.arr (30:TypeId) false (List.map bh (List.reverse au))))]) else False)=(aJ [] [(1,ah (aL 123 1) gRv)] 123 [.sl 0 0 n] [(0,⟨0,some 0,mA false l⟩)]) ae:=by kernel_rfl
def pd(l':List aw):En:=En.mk 0 none (Obj.arr (30:TypeId) false (dX l'))
def N2(l':List aw):List (Nat×En):=[(0,pd l')]
def mR(l:List aw):Prop:=dR l<=1000000
def Al(l:List aw):P:=P.sl 0 0 (dR l)
def w8:En:=En.mk 0 none (Obj.arr (30:TypeId) false [])
def Z6j(l:List Hd)(m:List Hd):S:=S.mk 37 [LM l,LL l,(4,P.sl 1004 0 0),(5,P.ref 1005 0 0),(6,P.ref 1006 0 0),(9,P.sl 1009 0 0),(10,P.mp 1010 0),(11,P.d (D.sl 2 (oJ l))),(12,P.d (D.sl 2 (qQ l))),(13,P.sl 1013000 0 (fg m)),(14,P.fn (153:FuncId) [P.ref 1014000 0 0])] [(1004,w8),(1005,En.mk 0 none (Obj.box (51:TypeId) [P.sl 1009 0 0])),(1006,En.mk 0 none (Obj.box (98:TypeId) [P.mp 1010 0])),(1009,w8),(1010,NY),(1005000,w8),(1013000,En.mk 0 none (Obj.arr (132:TypeId) true (List.map bI m))),(1014000,En.mk 0 none (Obj.box (128:TypeId) [P.d (D.sl 4 (D5 m))]))]
def Z6h(l:List Hd):List P:=[P.d (D.sl 2 (oJ l)),P.d (D.sl 2 (qQ l))]
theorem qjo(l:List Hd)(ae:P×List (Nat×En)->Prop):(∃(au:List Hd),Z6h l=Z6h au/\Zx/\mQ au/\ ∀(m:List Hd),m=wY au-> ∃(eX:List Hd) (bO:List Hd),Z6j l m=Z6j eX bO/\mQ bO/\ ∀(_:Int) (o:List Hd) (_:D->Option D),o=Cd bO-> ∃(l:List aw),[ra o]=[Al l]/\[(0,En.mk 0 (some 0) (Obj.arr (30:TypeId) false (oJ o)))]=EK l/\mR l/\ ∀(l':List aw),l'=List.reverse l->ae (ra o,N2 l'))=(sH [(68,zy),(123,SR)] [] [(500004,qdJ)] 94 [w6 l,w7 l] []) ae:=by kernel_rfl
def qdK:bm:=λps R ae=> ∃l,ps=[w6 l,w7 l]/\R=[]/\l.length<=1000000/\ ∀o,o=Yq l->ae (.sl 0 0 o.length,[(0,⟨0,none,mA false o⟩)])
def nF(l:List aw)(i:Nat):List aw:=(List.range l.length).map λp=>if p<i\/l.length-i<=p then l.getD (l.length-1-p) (0,0) else l.getD p (0,0)
theorem iw(l:List aw)(i:Nat):(nF l i).length=l.length:=by simp[nF]
theorem nG(l:List aw)(i p:Nat)(h:p<l.length):(nF l i)[p]'(by rw[iw];exact h)=if p<i\/l.length-i<=p then l.getD (l.length-1-p) (0,0) else l.getD p (0,0):=by simp[nF]
theorem N3(l:List aw):nF l 0=l:=by apply zbX (iw l 0);intro p h1 h2;rw[nG l 0 p h2,zal (by omega)];exact eb h2 _
theorem SU(l:List aw)(i:Nat)(h:l.length<=2*i+1):nF l i=l.reverse:=by
 apply zbX (by rw[iw];simp);intro p h1 h2;have hp:p<l.length:=by rw[iw] at h1;exact h1
 rw[nG l i p hp,List.getElem_reverse];split
 ·exact eb (by omega) _
 rw[eb hp];congr 1;omega
theorem N4(l:List aw)(i:Nat)(h:2*i+1<l.length):((nF l i).set i ((nF l i)[l.length-1-i]'(by rw[iw];omega))).set (l.length-1-i) ((nF l i)[i]'(by rw[iw];omega))=nF l (i+1):=by
 apply zbX (by simp[iw]);intro p h1 h2;have hp:p<l.length:=by rw[iw] at h2;exact h2
 rw[List.getElem_set,List.getElem_set,nG l (i+1) p hp,nG l i p hp,nG l i i (by omega),nG l i (l.length-1-i) (by omega)];by_cases e1:l.length-1-i=p
 ·rw[zao e1,zal (by omega),zao (by omega)];congr 1;omega
 rw[zal e1];by_cases e2:i=p
 ·rw[zao e2,zal (by omega),zao (by omega)];congr 1;omega
 rw[zal e2];by_cases e3:p<i\/l.length-i<=p
 ·rw[zao e3,zao (by omega)]
 rw[zal e3,zal (by omega)]
section
variable{X:XF}
theorem qdL:LD X 123 1 (ah (aL 123 1) gRv):=LD.par (H:=[]) (hk:=[]) (by kernel_rfl) (by kernel_rfl) .nil .nil
 (A:=List aw) (B:=Nat×Int×Int) (λl b=>rvH l.length (nF l b.1) b.2.1 b.2.2) (λl b=>l.length<=1000000/\b.2.1=(b.1:Int)/\b.2.2=(l.length:Int)-1-b.1/\2*b.1<=l.length+1) (λl b=>l.length-b.1)
 (λl x=>x=(.exit 0,⟨28,[(0,.sl 0 0 l.length)],[(0,⟨0,some 0,mA false l.reverse⟩)]⟩))
 (by
  rintro l ⟨k,i,j⟩ ⟨hm,hi,hj,hk⟩;dsimp only at*
  (rw[<-qg2];delta dX SS EK Zg GH EG A4 Zs Zn ZB rV Za Z9 Zb Zj Z6d uD LS lY ZI)
  refine b7 (λq6=> ?_) λq6=> ?_
  ·have aY:i.toNat=k:=by omega
   have Ce:j.toNat=l.length-1-k:=by omega
   have hrl:=iw l k;have ei:D.nth ((nF l k).map bh) i.toNat=bh ((nF l k)[k]'(by omega)):=by rw[aY];exact ay _ _ _ (by omega)
   have ej:D.nth ((nF l k).map bh) j.toNat=bh ((nF l k)[l.length-1-k]'(by omega)):=by rw[Ce];exact ay _ _ _ (by omega)
   have ln:=N4 l k (by omega);have dP:k≠l.length-1-k:=by omega
   rw[ei,ej];have hx: ∀y,((nF l k).set k y)[l.length-1-k]'(by simp;omega)=(nF l k)[l.length-1-k]'(by omega):=λy=>by rw[List.getElem_set_ne dP]
   generalize hxx:(nF l k)[k]'(by omega)=x at*
   generalize hyy:(nF l k)[l.length-1-k]'(by omega)=y at*
   have w1:D.aV (D.agg [D.int .i64 (D.aj (D.ar (bh x) 0)),D.int .i64 (D.aj (D.ar (bh x) 1))]) [D.int .i64 (D.aj (D.ar (bh y) 0)),D.int .i64 (D.aj (D.ar (bh y) 1))]=bh y:=rfl;have w2:D.aV (D.agg [D.int .i64 (D.aj (D.ar (bh y) 0)),D.int .i64 (D.aj (D.ar (bh y) 1))]) [D.int .i64 (D.aj (D.ar (bh x) 0)),D.int .i64 (D.aj (D.ar (bh x) 1))]=bh x:=rfl;have e3:D.nth ((nF l k).map bh |>.set i.toNat (bh y)) j.toNat=bh y:=by rw[<-zb1,aY,Ce,ay _ _ _ (by simp;omega),hx]
   rw[w1,e3,w2,<-zb1,<-zb1];refine ao ⟨by omega,by omega⟩ (ao (by simp;omega) (aq (jI _) (ao ⟨by omega,by omega⟩ (ao (by simp;omega) (aq (jI _) (ao ⟨by omega,by omega⟩ (ao (by simp;omega) (aq (jI _) (ao ⟨by omega,by omega⟩ (ao (by simp;omega) (aq (jI _) (ao (by omega) (ao (by omega) ?_)))))))))))));refine⟨l.length-(k+1),by omega,(k+1,i+1,j-1),?_,⟨hm,by show i+1=((k+1:Nat):Int);omega,by show j-1=(l.length:Int)-1-((k+1:Nat):Int);omega,by show 2*(k+1)<=l.length+1;omega⟩,rfl⟩;dsimp only;rw[<-ln,aY,Ce]
  show _=_;rw[SU l k (by omega)])
 (by rintro s ae ⟨l,n,j,rfl,⟨rfl,hj,hn⟩,hp⟩;refine⟨l,(0,0,j),by dsimp only;rw[N3],⟨hn,rfl,by show j=_;omega,by show 2*0<=_;omega⟩,?_⟩;rintro x rfl;exact hp)
theorem qdM:FD X 123 SR:=FD.mk (H:=[]) (hk:=[(1,ah (aL 123 1) gRv)]) (by kernel_rfl) .nil (.cons qdL .nil) (by
 intro ps R ae hh;obtain⟨l,rfl,rfl,hm,hp⟩:=hh
 (rw[<-qjn];delta dR Zt Zu dX SS EK Z7 ZB rV Za Z9)
 exact ao (by omega) ⟨l,l.length,_,rfl,⟨rfl,rfl,hm⟩,hp _ rfl⟩)
end
section
variable{X:XF}{w0:World}(hX:dC PR w0 X.cf)
include hX
theorem qjp:FN w0 94 4 qdJ:=FN.mk hX (H:=[]) (HN:=[]) EJ .nil .nil (base:=2000000) (keep:=YH) (by kernel_rfl) (hk:=λfi yt=>if Nat.beq fi fBk&&Nat.beq yt 1 then [(1,ey (aL fBk 1) gOn)] else [])
 (by
  intro fi yt h Aj hl;split at hl
  next hb=>
   rw[zab] at hb;have e1:=zaf hb.1;have e2:=zaf hb.2;subst e1 e2;unfold lk at hl;split at hl
   next he=>have e3:=zaf he;subst e3;cases hl;exact⟨by kernel_rfl,qjm hX⟩
   cases hl
  cases hl)
 (by rintro s ae ⟨l,m,rfl,hm,hp⟩;rw[<-YJ];have e:List.take m.length (m.map bI)=m.map bI:=zah (by simp);rw[e,zaa];exact ao (by omega) ⟨m,hm,⟨_,rfl,rfl⟩,λc o f h1 h2=>hp c o f h1⟩)
theorem qjq:ND w0 94 qdK:=ND.mk hX (H:=[(68,zy),(123,SR)]) (HN:=[]) (hk:=[(500004,qdJ)]) EJ (by kernel_rfl) (by kernel_rfl) (.cons LQ (.cons qdM .nil)) .nil (.range (qjp hX) .nil) (by
 intro ps R ae hh;obtain⟨l,rfl,rfl,hm,hp⟩:=hh
 (rw[<-qjo];delta dX pd N2 dR mR SS EK oJ Al fg ra D5 NY w8 qQ LL LM Z6j mQ Zx Z6h)
 have hl:=GN l;refine⟨l,rfl,rfl,hm,λm VX=>⟨l,m,rfl,by rw[VX];omega,λc o f ho=>⟨o.map (·.1),by rw[zaa],rfl,?_,λl' Qn=> ?_⟩⟩⟩
 ·have:=LR m;rw[zaa,ho];subst VX;omega
 have e:l'=Yq l:=by rw[Qn,ho,VX,qg1]
 have e2:o.length=l'.length:=by rw[Qn];simp
 rw[e2];exact hp l' e)
end
abbrev bj:=av×aw
structure Tl where
 a:List av
 p:List Pl
 h:List bj
 g:List bj
def tl0:Tl:=⟨[],[],[],[]⟩
def sM(o:aX):Pl:=(o.node,o.parent,o.name,o.dir)
def fV(on:Bool)(o:aX):Bool:=o.kind==0 || (o.kind==1&&on)
def gx(on:Bool)(o:aX):Bool:=on&& !(o.kind==2)
def SV(on:Bool)(s:aw)(t:Tl)(o:aX)(k:Nat):Tl:=
 ⟨if fV on o=true then t.a++[(s.1,s.2,(k:Int))] else t.a,if fV on o=true then t.p++[sM o] else t.p,
  if gx on o=true then t.h++[(o.node,s)] else t.h,if on=true then t.g++o.cg.map (λd=>(o.node,d)) else t.g⟩
def GY(on:Bool)(s:aw)(l:List aX)(t:Tl):Tl:=l.zipIdx.foldl (λt p=>SV on s t p.1 p.2) t
def tlG(on:List aw)(t:Tl)(g:ak):Tl:=GY (decide (g.s∈on)) g.s g.ops t
def vv(on:List aw)(l:List ak):Tl:=l.foldl (tlG on) tl0
theorem zA{on:Bool}{s:aw}{l:List aX}{t:Tl}{i:Nat}(h:i<l.length):GY on s (l.take (i+1)) t=SV on s (GY on s (l.take i) t) l[i] i:=by unfold GY;rw[zag h,List.zipIdx_append,za3];simp[zay,zci (Nat.le_of_lt h)]
theorem ug{on:List aw}{l:List ak}{i:Nat}(h:i<l.length):vv on (l.take (i+1))=tlG on (vv on (l.take i)) l[i]:=by unfold vv;rw[zag h,za3];rfl
def dq(l:List ak):Nat:=(l.map λg=>g.ops.length).sum
theorem lP:dq []=0:=rfl
theorem jh(g:ak)(l:List ak):dq (g::l)=g.ops.length+dq l:=by simp[dq]
theorem zB(a b:List ak):dq (a++b)=dq a+dq b:=by simp[dq]
theorem qR(l:List ak)(i:Nat):dq (l.take i)<=dq l:=by have:=zB (l.take i) (l.drop i);rw[zbS] at this;omega
theorem sN{l:List ak}{i:Nat}(h:i<l.length):dq (l.take (i+1))=dq (l.take i)+l[i].ops.length:=by rw[zag h,zB,jh,lP];omega
theorem Cf: ∀(l o:List ak),dq (l.foldl kK o)<=dq o+dq l
 | [],o=>by simp[lP]
 |g::r,o=>by
  have h1:=Cf r (kK o g);have h2:dq (kK o g)<=dq o+g.ops.length:=by
   unfold kK;split
   ·rw[zB,jh,lP];omega
   omega
  rw[za8,jh];omega
theorem J0(l:List ak):dq (aC l)<=dq l:=by simpa [aC,lP] using Cf l []
def vw(n:Nat)(t:Tl):Prop:=t.a.length=t.p.length/\t.a.length<=n/\t.h.length<=n/\t.g.length<=200*n
theorem vw.zero:vw 0 tl0:=⟨rfl,zak _,zak _,zak _⟩
theorem vw.mono{n m:Nat}{t:Tl}(h:vw n t)(hm:n<=m):vw m t:=⟨h.1,by have:=h.2.1;omega,by have:=h.2.2.1;omega,by have:=h.2.2.2;omega⟩
theorem vw.op{n:Nat}{t:Tl}(h:vw n t){on:Bool}{s:aw}{o:aX}{k:Nat}(hd:o.cg.length<=200):vw (n+1) (SV on s t o k):=by
 obtain⟨h0,h1,h2,h3⟩:=h;unfold vw SV;refine⟨?_,?_,?_,?_⟩
 ·dsimp only;split<;>simp[h0]
 ·dsimp only;split
  ·simp;omega
  omega
 ·dsimp only;split
  ·simp;omega
  omega
 dsimp only;split
 ·simp;omega
 omega
theorem vw.ops{n:Nat}{t:Tl}(h:vw n t){on:Bool}{s:aw}{l:List aX}(hd: ∀o∈l,o.cg.length<=200): ∀i,i<=l.length->vw (n+i) (GY on s (l.take i) t)
 |0,_=>by simpa [GY] using h
 |i+1,hi=>by rw[zA hi];exact(vw.ops h hd i (by omega)).op (hd _ (zas hi))
theorem vw.grp{n:Nat}{t:Tl}(h:vw n t){on:List aw}{g:ak}(hd: ∀o∈g.ops,o.cg.length<=200):vw (n+g.ops.length) (tlG on t g):=by have:=vw.ops h (on:=decide (g.s∈on)) (s:=g.s) hd g.ops.length (zak _);rwa [zaj] at this
theorem SX{s:aw}{k n:Int}{o:aX}(h:kJ s k o=some n):o.cg.length<=200:=by
 unfold kJ at h;split at h
 ·cases h
 rename_i hb;by_cases h2:o.kind=2
 ·rw[zal (by omega),zal (by omega),zao h2] at h;split at h
  next hd=>have:=hd.2;unfold nA at this;rw[zab,zai] at this;exact this.2
  cases h
 have:o.cg.length=0:=by
  simp only[zcx,fD,ky,zab,za9,zaT] at hb;rcases hb.1.1.2 with h |h
  ·exact absurd h h2
  exact h
 omega
theorem GZ{P:aX->Prop}{s:aw}(hP: ∀k n o,kJ s k o=some n->P o): ∀(l:List aX) (k:Int),je s k l=true-> ∀o∈l,P o
 | [],_,_,_,h=>by cases h
 |o::r,k,h,x,hx=>by
  unfold je at h;split at h
  next n hn=>
   rcases zaw.1 hx with rfl |hx
   ·exact hP k n _ hn
   exact GZ hP r _ h x hx
  cases h
theorem D9{g:ak}(h:cE g=true):je g.s 0 g.ops=true:=by
 unfold cE at h;rw[zab] at h;have h2:=h.2;split at h2
 ·simp only[zab,zaT] at h2;rw[zau h2.2];rfl
 rw[zab] at h2;exact h2.2
theorem uh{g:ak}(h:cE g=true): ∀o∈g.ops,o.cg.length<=200:=GZ (P:=λo=>o.cg.length<=200) (λ_ _ _ h=>SX h) _ _ (D9 h)
theorem ui{g:ak}(h:cE g=true):g.ops.length<=200:=by
 unfold cE at h;rw[zab] at h;have h2:=h.2;split at h2
 ·simp only[zab,zaT] at h2;omega
 rw[zab,zai] at h2;exact h2.1.2
theorem Cg{on:List aw}{l:List ak}(hc: ∀g∈l,cE g=true): ∀i,i<=l.length->vw (dq (l.take i)) (vv on (l.take i))
 |0,_=>by simpa [vv,lP] using vw.zero
 |i+1,hi=>by rw[ug hi,sN hi];exact(Cg hc i (by omega)).grp (uh (hc _ (zas hi)))
def SmV(l:List ak):Prop:=dq l<=1000
def Rt(T:List Pl):Prop:=Uq T/\ ∀p∈T,zh p=true
theorem qdN{T:List Pl}(h:Rt T)(p:Pl):Rt (Jw T p):=by
 unfold Jw;split
 ·exact h
 rename_i h0;split
 next hp=>
  refine⟨?_,λq hq=> ?_⟩
  ·unfold Uq;rw[zaB,za2];refine⟨h.1,by simp,λa ha b hb=> ?_⟩;simp at hb;subst hb;intro e;obtain⟨q,hq,hqa⟩:=zaA.1 ha;apply h0;unfold ez;rw[List.find?_isSome];exact⟨q,hq,by simp[hqa,e]⟩
  rcases zaI.1 hq with hq |hq
  ·exact h.2 q hq
  simp at hq;subst hq;exact hp
 exact h
theorem SY: ∀(l T:List Pl),Rt T->Rt (l.foldl Jw T)
 | [],_,h=>h
 |p::r,_,h=>SY r _ (qdN h p)
theorem SZ(l:List Pl):Rt (pn l):=SY l [] ⟨by simp[Uq],by simp⟩
theorem YK(T:List Pl)(p:Pl):(Jw T p).length<=T.length+1:=by
 unfold Jw;split
 ·omega
 split
 ·simp
 omega
theorem LU: ∀(l T:List Pl),(l.foldl Jw T).length<=T.length+l.length
 | [],_=>by simp
 |p::r,T=>by have:=LU r (Jw T p);have:=YK T p;simp only[za8,zap];omega
theorem Ea(l:List Pl):(pn l).length<=l.length:=by simpa [pn] using LU l []
def N5(L:List Pl)(p:Pl):List UInt8:=if L.any (λq=>decide (q.2.1=p.2.1)&&(q.2.2.1==p.2.2.1)&&mO q.1 p.1) then(lJ p.2.2.1 p.1.1 p.1.2.1 p.1.2.2).1 else p.2.2.1
def LV(T:List Pl)(live:List av)(x:av):List UInt8:=match ez T x with |some p=>N5 (bg T live) p |none=>[]
def J1(T:List Pl)(live:List av)(x:av):List (List UInt8):=match wy T x with |some w=>w.reverse.map (LV T live)|none=>[]
def LW(T:List Pl)(live:List av)(x:av):List UInt8:=qb (J1 T live x)
abbrev It:=av×List UInt8×Bool×Bool
def lQ(T:List Pl)(live:List av)(p:Pl):It:=(p.1,LW T live p.1,p.2.2.2,!decide (p.1∈live))
abbrev G6(a b:It):Bool:=Op.bytesLess a.2.1 b.2.1
def kj(T:List Pl)(live:List av):List It:=cp G6 ((bg T live).map (lQ T live))
section
variable{T:List Pl}{live:List av}
theorem qdO{p:Pl}(h:zh p=true):(lJ p.2.2.1 p.1.1 p.1.2.1 p.1.2.2).1=p.2.2.1++126::BZ p.1.1 p.1.2.1 p.1.2.2:=by simp only[zh,zab] at h;rw[lJ,zao h.2,zao h.1]
theorem S0{x:av}{p:Pl}(h:marked T live x=true)(hp:ez T x=some p):p∈bg T live:=by obtain⟨h1,h2⟩:=jG hp;exact zb4.2 ⟨h1,by rw[h2];exact h⟩
theorem S1{x:av}{w:List av}(h:Up T x w):J1 T live x=w.reverse.map (LV T live):=by unfold J1;rw[Jy.2 h]
theorem YL{p:Pl}(h:p∈bg T live):p∈T/\marked T live p.1=true:=by unfold bg at h;rw[zb4] at h;exact h
end
def fF(x:It):D:=itD x.1.1 x.1.2.1 x.1.2.2 x.2.1 x.2.2.1 x.2.2.2
theorem qg3(x:It):cx PR 72 (fF x)=true:=by obtain⟨⟨a,b,c⟩,d,e,f⟩:=x;kernel_rfl
theorem xD(L:List Pl){p:Pl}(h:zh p=true):(N5 L p).length<=200:=by
 have h':=h;simp only[zh,zab] at h';have hn:p.2.2.1.length<=32:=by have:=h'.2;simp only[dQ,zai] at this;exact this.2.1
 unfold N5;split
 ·rw[qdO h];have hr:=h'.1;simp only[cy,zai] at hr;have l1:=gI (n:=p.1.1) (by omega) (by omega);have l2:=gI (n:=p.1.2.1) (by omega) (by omega);have l3:=gI (n:=p.1.2.2) (by omega) (by omega);simp[BZ];omega
 omega
theorem S2: ∀(l:List (List UInt8)),(∀s∈l,s.length<=200)->XO l<=201*l.length
 | [],_=>by simp[XO,qb]
 |s::r,h=>by have h1:=S2 r λx hx=>h x (by simp[hx]);have h2:=h s (by simp);simp only[XO,qb,zct,zan,zap] at h1⊢;omega
theorem N6{T:List Pl}{V:List av}(hT:Rt T){x:av}{w:List av}(hw:Up T x w):XO (w.reverse.map (LV T V))<=201*T.length:=by
 have:=S2 (w.reverse.map (LV T V)) λs hs=>by obtain⟨u,hu,rfl⟩:=zaA.1 hs;obtain⟨w',h1,_⟩:=hw.sub u (by simpa using hu);obtain⟨p,hp⟩:=h1.at;unfold LV;rw[hp];exact xD _ (hT.2 p (jG hp).1)
 have hl:=hw.len;simp only[zaa,List.length_reverse] at this;omega
section
variable{X:XF}{w0:World}(hX:dC PR w0 X.cf)
include hX
end
def rh{α:Type}(f:α->Bool)(l:List α):Int:=match l.findIdx? f with |some i=>(i:Int)|none=> -1
abbrev bxI(n:Nat)(x:av):List (Nat×En):=[(n,⟨0,none,.box 50 [.d (.int .i64 x.1),.d (.int .i64 x.2.1),.d (.int .i64 x.2.2)]⟩)]
abbrev qdP(l:List Pl)(x:av)(k:Int):S:=⟨20,[(0,eM l),(3,.ref 0 0 0),(5,iD k)],bxI 0 x⟩
def eQ(l:List Pl)(x:av):Int:=rh (λp:Pl=>p.1==x) l
def qdQ:S->K (PX×S):=λs ae=> ∃l x,s=qdP l x 0/\l.length<=1000000/\(∀i:Int,i=eQ l x->0<=i->ae (.ret,⟨20,[(0,eM l),(4,iD i)],[]⟩))/\(eQ l x= -1->ae (.exit 0,⟨20,[(0,eM l)],[]⟩))
def pq(x:av):En:=En.mk 0 none (Obj.box (50:TypeId) [P.d (gK x),P.d (gJ x),P.d (gT x)])
def w9(x:av):Nat×En:=(0,pq x)
def J2(x:av):List (Nat×En):=[w9 x]
def iG(l:List Pl):List D:=List.map bP l
def lZ(l:List Pl):P:=P.d (D.sl 8 (iG l))
def uH(l:List Pl):Nat×P:=(0,lZ l)
def oY(l:List Pl)(k:Int):D:=D.nth (iG l) (Zg k)
def Z6u(l:List Pl)(k:Int)(x:av):Bool:=D.aj (D.ar (oY l k) 0)==Prod.fst x&&(D.aj (D.ar (oY l k) 1)==im x&&true)&&(D.aj (D.ar (oY l k) 2)==gU x&&true)
noncomputable def ri(l:List Pl)(k:Int):Bool:=cx PR (104:TypeId) (oY l k)
def s5(l:List Pl):Nat:=List.length (iG l)
def G7(k:Int)(l:List Pl):Bool:=decide ((0:Int)<=k/\k<(↑(s5 l):Int))
def Z6q(k:Int)(l:List Pl):Bool:=decide (k<(↑(s5 l):Int))
theorem qbD(l:List Pl)(x:av)(k:Int)(ae:PX×S->Prop):(bif Z6q k l then bif G7 k l then bif ri l k then bif Z6u l k x then ae (PX.ret,S.mk 20 (uH l::A6 k) []) else bif Zj k then ae (PX.normal,S.mk 20 (uH l::cN::Zo k) (J2 x)) else False else False else False else ae (PX.exit 0,S.mk 20 [uH l] []))=(aD [] [] 87 2 (qdP l x k)) ae:=by kernel_rfl
def km(au:List Pl):Nat:=List.length au
def oK(au:List Pl):Prop:=km au<=1000000
theorem qdR(l:List Pl)(x:av)(ae:P×List (Nat×En)->Prop):(∃(au:List Pl) (aK:av),S.mk 20 (uH l::cN::ZN) (J2 x)=S.mk 20 (uH au::cN::ZN) (J2 aK)/\oK au/\(∀(i:Int),i=eQ au aK->(0:Int)<=i->ae (P.d (Zt i),[]))/\(eQ au aK=(-1:Int)->pk ae))=(aJ [] [(2,ah (aL 87 2) qdQ)] 87 [eM l,.d (bH x)] []) ae:=by kernel_rfl
def S3:bm:=λps R ae=> ∃l x,ps=[eM l,.d (bH x)]/\R=[]/\l.length<=1000000/\ae (iD (eQ l x),[])
abbrev Ch(z:Bool)(l:List Pl):List (Nat×En):=[(0,⟨0,some 0,.arr 104 z (l.map bP)⟩)]
abbrev qdS(z:Bool)(l:List Pl)(n:Nat)(x:av)(k:Int):S:=⟨20,[(0,.sl 0 0 n),(3,.ref 1 0 0),(5,iD k)],Ch z l++bxI 1 x⟩
def S4:S->K (PX×S):=λs ae=> ∃z l x,s=qdS z l l.length x 0/\l.length<=1000000/\(∀i:Int,i=eQ l x->0<=i->ae (.ret,⟨20,[(0,.sl 0 0 l.length),(4,iD i)],Ch z l⟩))/\(eQ l x= -1->ae (.exit 0,⟨20,[(0,.sl 0 0 l.length)],Ch z l⟩))
def S5(x:av):List (Nat×En):=[(1,pq x)]
def N7(z:Bool)(l:List Pl):Nat×En:=(0,En.mk 0 (some 0) (Obj.arr (104:TypeId) z (iG l)))
def EL(z:Bool)(l:List Pl):List (Nat×En):=[N7 z l]
def HV(k:Int)(l:List Pl):Bool:=decide (Zg k<s5 l)
def S6(k:Int)(n:Nat):Bool:=decide (k<(↑n:Int))
theorem S7(z:Bool)(l:List Pl)(n:Nat)(x:av)(k:Int)(ae:PX×S->Prop):(bif S6 k n then bif lY k n then bif HV k l then bif ri l k then bif Z6u l k x then ae (PX.ret,S.mk 20 (rV n::A6 k) (EL z l)) else bif Zj k then ae (PX.normal,S.mk 20 (rV n::sY::Zo k) (N7 z l::S5 x)) else False else False else False else False else ae (PX.exit 0,S.mk 20 [rV n] (EL z l)))=(aD [] [] 87 2 (qdS z l n x k)) ae:=by kernel_rfl
def uj(au:List Pl):P:=P.sl 0 0 (km au)
theorem YM(z:Bool)(l:List Pl)(n:Nat)(x:av)(ae:P×List (Nat×En)->Prop):(∃(N8:Bool) (au:List Pl) (aK:av),S.mk 20 (rV n::sY::ZN) (N7 z l::S5 x)=S.mk 20 ((0,uj au)::sY::ZN) (N7 N8 au::S5 aK)/\oK au/\(∀(i:Int),i=eQ au aK->(0:Int)<=i->ae (P.d (Zt i),EL N8 au))/\(eQ au aK=(-1:Int)->ae (Lq,EL N8 au)))=(aJ [] [(2,ah (aL 87 2) S4)] 87 [.sl 0 0 n,.d (bH x)] (Ch z l)) ae:=by kernel_rfl
def S8:bm:=λps R ae=> ∃z l x,ps=[.sl 0 0 l.length,.d (bH x)]/\R=Ch z l/\l.length<=1000000/\ae (iD (eQ l x),Ch z l)
abbrev hsH(l:List av)(x:av)(k:Int):S:=⟨18,[(0,cX l),(3,.ref 0 0 0),(5,iD k)],bxI 0 x⟩
def qdT:S->K (PX×S):=λs ae=> ∃l x,s=hsH l x 0/\l.length<=1000000/\(x∈l->ae (.ret,⟨18,[(0,cX l),(4,.d (.bool true))],[]⟩))/\(x∉l->ae (.exit 0,⟨18,[(0,cX l)],[]⟩))
def G8:List (Nat×P):=[(4,ZO)]
def Eb(l:List av):Nat×P:=(0,ma l)
def Z6I(l:List av)(k:Int)(x:av):Bool:=JI l k==Prod.fst x&&(JH l k==im x&&true)&&(JG l k==gU x&&true)
theorem qbE(l:List av)(x:av)(k:Int)(ae:PX×S->Prop):(bif decide (k<wz l) then bif NP k l then bif xv l k then bif Z6I l k x then ae (PX.ret,S.mk 18 (Eb l::G8) []) else bif Zj k then ae (PX.normal,S.mk 18 (Eb l::cN::Zo k) (J2 x)) else False else False else False else ae (PX.exit 0,S.mk 18 [Eb l] []))=(aD [] [] 91 2 (hsH l x k)) ae:=by kernel_rfl
def qp(au:List av):Prop:=iq au<=1000000
theorem qdU(l:List av)(x:av)(ae:P×List (Nat×En)->Prop):(∃(au:List av) (aK:av),S.mk 18 (Eb l::cN::ZN) (J2 x)=S.mk 18 (Eb au::cN::ZN) (J2 aK)/\qp au/\(aK∈au->ZP ae)/\(¬aK∈au->Z4 ae))=(aJ [] [(2,ah (aL 91 2) qdT)] 91 [cX l,.d (bH x)] []) ae:=by kernel_rfl
def S9:bm:=λps R ae=> ∃l x,ps=[cX l,.d (bH x)]/\R=[]/\l.length<=1000000/\ae (.d (.bool (decide (x∈l))),[])
theorem G9{α:Type}{f:α->Bool}{l:List α}{i:Nat}{x:α}(h:l[i]?=some x)(hf:f x=true)(hb: ∀y∈l.take i,f y=false):rh f l=(i:Int):=by
 have hi:i<l.length:=(zad.1 h).1;have:l.findIdx? f=some i:=by rw[zbp];refine⟨hi,by rw[(zad.1 h).2];exact hf,λj hj=> ?_⟩;rw[hb _ (zc8.2 ⟨j,by omega,rfl⟩)];simp
 unfold rh;rw[this]
theorem LX{α:Type}{f:α->Bool}{l:List α}(h: ∀x∈l,f x=false):rh f l= -1:=by
 have:l.findIdx? f=none:=by rw[zbL];exact h
 unfold rh;rw[this]
theorem sO{α:Type}(f:α->Bool)(l:List α):(∃(i:Nat) (x:α),l[i]?=some x/\f x=true/\rh f l=(i:Int))\/(rh f l= -1/\ ∀x∈l,f x=false):=by
 cases h:l.findIdx? f with
 |some i=>obtain⟨hi,hf,_⟩:=zbp.1 h;exact .inl ⟨i,l[i],zae hi,hf,by unfold rh;rw[h]⟩
 |none=>exact .inr ⟨by unfold rh;rw[h],zbL.1 h⟩
theorem getD_some{α:Type}{l:List α}{k:Nat}(h:k<l.length)(d:α):l[k]?=some (l.getD k d):=by rw[zac,zae h];rfl
section
variable{X:XF}
theorem LD.scan{H:List (FuncId×bm)}{hk:List (Nat×(S->K (PX×S)))}{f id:Nat}{g:S->K (PX×S)}(hu:uniq PR f=true)(hc:cd (qK f) (bB PR f id)=true)(hH:HD X H)(hl:Rq X f hk)
  {A α:Type} (hd:A->Int->S) (pc:A->List α) (d:α) (t:A->α->Bool) (C:A->Prop) (rt:A->Int->S) (ex:A->S)
  (hr: ∀a (k:Int) ae,C a->(pc a).length<=1000000->0<=k->(k<(pc a).length->k.toNat<(pc a).length->(t a ((pc a).getD k.toNat d)=true->ae (.ret,rt a k))->(t a ((pc a).getD k.toNat d)=false->ae (.normal,hd a (k+1)))->aD H hk f id (hd a k) ae))
  (hx: ∀a (k:Int) ae,C a-> ¬k<(pc a).length->ae (.exit 0,ex a)->aD H hk f id (hd a k) ae)
  (hg: ∀s ae,g s ae-> ∃a,s=hd a 0/\C a/\(pc a).length<=1000000/\(∀i:Int,i=rh (t a) (pc a)->0<=i->ae (.ret,rt a i))/\(rh (t a) (pc a)= -1->ae (.exit 0,ex a))):LD X f id (ah (aL f id) g):=
 LD.par hu hc hH hl (A:=A) (B:=Int) hd (λa k=>C a/\(pc a).length<=1000000/\0<=k/\k.toNat<=(pc a).length/\ ∀y∈(pc a).take k.toNat,t a y=false) (λa k=>((pc a).length-k).toNat)
  (λa x=>(∃i:Int,i=rh (t a) (pc a)/\0<=i/\x=(.ret,rt a i))\/(rh (t a) (pc a)= -1/\x=(.exit 0,ex a)))
  (by
   rintro a k ⟨h1,h2,h3,h4,h5⟩;by_cases hk:k<(pc a).length
   ·have dO:k.toNat<(pc a).length:=by omega
    refine hr a k _ h1 h2 h3 hk dO (λht=> .inl ⟨k,?_,h3,rfl⟩) λht=>⟨((pc a).length-(k+1)).toNat,by omega,k+1,rfl,⟨h1,h2,by omega,by omega,λy hy=> ?_⟩,rfl⟩
    ·rw[G9 (getD_some dO d) ht h5];omega
    rw[show(k+1).toNat=k.toNat+1 by omega,zb8,getD_some dO d] at hy;rcases zaI.1 hy with hy |hy
    ·exact h5 y hy
    simp at hy;rw[hy];simpa using ht
   refine hx a k _ h1 hk (.inr ⟨LX λy hy=>h5 y ?_,rfl⟩);rw[zah (by omega)];exact hy)
  (by
   intro s ae h;obtain⟨a,rfl,h1,h2,h3,h4⟩:=hg s ae h;refine⟨a,0,rfl,⟨h1,h2,by simp,by simp,by simp⟩,?_⟩;rintro x (⟨i,h5,h6,rfl⟩| ⟨h5,rfl⟩)
   ·exact h3 i h5 h6
   exact h4 h5)
theorem qdV{l:List It}{i:Nat}(h:i<l.length)(d:It):D.nth (l.map fF) i=fF (l.getD i d):=by rw[ay fF l i h];simp[zac,h]
def it0:It:=((0,0,0),[],false,false)
theorem LZ{α:Type}(f:α->Bool)(l:List α):decide (rh f l>=0)=l.any f:=by
 rcases sO f l with⟨i,x,h1,h2,h3⟩| ⟨h1,h2⟩
 ·rw[h3,zby.2 ⟨x,zaC h1,h2⟩];simp
 rw[h1];cases h:l.any f with
 |false=>rfl
 |true=>obtain⟨x,hx,hf⟩:=zby.1 h;rw[h2 x hx] at hf;cases hf
theorem uk(x y:av):(x.1==y.1&&(x.2.1==y.2.1&&true)&&(x.2.2==y.2.2&&true))=(x==y):=by rw[zaH];obtain⟨a,b,c⟩:=x;obtain⟨d,e,f⟩:=y;simp[and_assoc]
theorem YN:LD X 87 2 (ah (aL 87 2) qdQ):=
 LD.scan (H:=[]) (hk:=[]) (by kernel_rfl) (by kernel_rfl) .nil .nil
  (A:=List Pl×av) (λa k=>qdP a.1 a.2 k) (·.1) tW (λa p=>p.1==a.2) (λ_=>True)
  (λa i=>⟨20,[(0,eM a.1),(4,iD i)],[]⟩) (λa=>⟨20,[(0,eM a.1)],[]⟩)
  (by
   rintro⟨l,x⟩ k ae _ hm h0 hk dO ht hf;dsimp only at*
   (rw[<-qbD];delta gU gT im gJ gK pq w9 J2 Zn Zo bT cN Za Z9 Zj Zt nP A6 iG lZ uH Zg oY Z6u ri s5 G7 Z6q)
   simp only[zaa];rw[jd dO];refine fT (lG hk) (bu ⟨h0,hk⟩ (aq (ig _) (az (λh=>ht ?_) λh=>aq (p9 (by omega) (by omega)) (hf ?_))))
   ·rw[<-uk];exact h
   rw[<-uk];exact h)
  (by
   rintro⟨l,p⟩ k ae _ hk hp;dsimp only at*
   (rw[<-qbD];delta gU gT im gJ gK pq w9 J2 Zn Zo bT cN Za Z9 Zj Zt nP A6 iG lZ uH Zg oY Z6u ri s5 G7 Z6q)
   simp only[zaa];exact lD (lH hk) hp)
  (by rintro s ae ⟨l,p,rfl,hm,h1,h2⟩;exact⟨(l,p),rfl,trivial,hm,h1,h2⟩)
theorem qbF:FD X 87 S3:=FD.mk (H:=[]) (hk:=[(2,ah (aL 87 2) qdQ)]) (by kernel_rfl) .nil (.cons YN .nil) (by
 intro ps R ae hh;obtain⟨l,x,rfl,rfl,hm,hp⟩:=hh
 (rw[<-qdR];delta Lq pk Zt km oK gU gT im gJ gK pq w9 J2 Z7 ZN bT cN iG lZ uH)
 refine⟨l,x,rfl,hm,λi hi h0=> ?_,λh=> ?_⟩
 ·rw[hi];exact hp
 rw[h] at hp;exact hp)
theorem Ta:LD X 87 2 (ah (aL 87 2) S4):=
 LD.scan (H:=[]) (hk:=[]) (by kernel_rfl) (by kernel_rfl) .nil .nil
  (A:=List Pl×av×Bool) (λa k=>qdS a.2.2 a.1 a.1.length a.2.1 k) (·.1) tW (λa p=>p.1==a.2.1) (λ_=>True)
  (λa i=>⟨20,[(0,.sl 0 0 a.1.length),(4,iD i)],Ch a.2.2 a.1⟩) (λa=>⟨20,[(0,.sl 0 0 a.1.length)],Ch a.2.2 a.1⟩)
  (by
   rintro⟨l,x,z⟩ k ae _ hm h0 hk dO ht hf;dsimp only at*
   (rw[<-S7];delta gU gT im gJ gK pq S5 iG N7 Zn Zo iQ sY Za Z9 Zj EL Zt nP A6 ZB rV Zg oY Z6u ri s5 HV lY S6)
   rw[jd dO];refine fT (lG hk) (bu ⟨h0,hk⟩ (aq (lG (by rw[zaa];exact dO)) (aq (ig _) (az (λh=>ht ?_) λh=>aq (p9 (by omega) (by omega)) (hf ?_)))))
   ·rw[<-uk];exact h
   rw[<-uk];exact h)
  (by
   rintro⟨l,p,z⟩ k ae _ hk hp;dsimp only at*
   (rw[<-S7];delta gU gT im gJ gK pq S5 iG N7 Zn Zo iQ sY Za Z9 Zj EL Zt nP A6 ZB rV Zg oY Z6u ri s5 HV lY S6)
   exact lD (lH hk) hp)
  (by rintro s ae ⟨z,l,p,rfl,hm,h1,h2⟩;exact⟨(l,p,z),rfl,trivial,hm,h1,h2⟩)
theorem Tb:FD X 87 S8:=FD.mk (H:=[]) (hk:=[(2,ah (aL 87 2) S4)]) (by kernel_rfl) .nil (.cons Ta .nil) (by
 intro ps R ae hh;obtain⟨z,l,x,rfl,rfl,hm,hp⟩:=hh
 (rw[<-YM];delta Lq iG N7 EL Zt km oK uj gU gT im gJ gK pq S5 Z7 ZN iQ sY ZB rV)
 refine⟨z,l,x,rfl,hm,λi hi h0=> ?_,λh=> ?_⟩
 ·rw[hi];exact hp
 rw[h] at hp;exact hp)
theorem L0{α:Type}{f:α->Bool}{l:List α}:0<=rh f l↔ ∃x∈l,f x=true:=by
 rcases sO f l with⟨i,x,h1,h2,h3⟩| ⟨h1,h2⟩
 ·rw[h3];exact⟨λ_=>⟨x,zaC h1,h2⟩,λ_=>by omega⟩
 rw[h1];exact⟨λh=>by omega,λ⟨x,hx,hf⟩=>by rw[h2 x hx] at hf;cases hf⟩
theorem YO:LD X 91 2 (ah (aL 91 2) qdT):=
 LD.scan (H:=[]) (hk:=[]) (by kernel_rfl) (by kernel_rfl) .nil .nil
  (A:=List av×av) (λa k=>hsH a.1 a.2 k) (·.1) (0,0,0) (λa p=>p==a.2) (λ_=>True)
  (λa i=>⟨18,[(0,cX a.1),(4,.d (.bool true))],[]⟩) (λa=>⟨18,[(0,cX a.1)],[]⟩)
  (by
   rintro⟨l,x⟩ k ae _ hm h0 hk dO ht hf;dsimp only at*
   (rw[<-qbE];delta gU gT im gJ gK pq w9 J2 Zn Zo bT cN Za Z9 Zj ZO G8 gD ma Eb Zg JG JH JI Z6I xv qf wz NP)
   simp only[zaa];rw[qdh dO];refine fT (lG hk) (bu ⟨h0,hk⟩ (aq (l6 _) (az (λh=>ht ?_) λh=>aq (p9 (by omega) (by omega)) (hf ?_))))
   ·rw[<-uk];exact h
   rw[<-uk];exact h)
  (by
   rintro⟨l,p⟩ k ae _ hk hp;dsimp only at*
   (rw[<-qbE];delta gU gT im gJ gK pq w9 J2 Zn Zo bT cN Za Z9 Zj ZO G8 gD ma Eb Zg JG JH JI Z6I xv qf wz NP)
   simp only[zaa];exact lD (lH hk) hp)
  (by
   rintro s ae ⟨l,x,rfl,hm,h1,h2⟩;refine⟨(l,x),rfl,trivial,hm,λi hi h0=>h1 ?_,λh=>h2 λhx=> ?_⟩
   ·rw[hi] at h0;obtain⟨y,hy,he⟩:=L0.1 h0;have:y=x:=by simpa using he
    exact this▸hy
   have:0<=rh (λp=>p==x) l:=L0.2 ⟨x,hx,by simp⟩;dsimp only at h;omega)
theorem qbG:FD X 91 S9:=FD.mk (H:=[]) (hk:=[(2,ah (aL 91 2) qdT)]) (by kernel_rfl) .nil (.cons YO .nil) (by
 intro ps R ae hh;obtain⟨l,x,rfl,rfl,hm,hp⟩:=hh
 (rw[<-qdU];delta Z3 Z4 ZO ZP iq qp gU gT im gJ gK pq w9 J2 Z7 ZN bT cN gD ma Eb)
 exact⟨l,x,rfl,hm,λh=>zf hp (by simp[h]),λh=>zf hp (by simp[h])⟩)
end
def Am(l:List Pl)(au:List Pl)(aK:av):D:=D.nth (iG l) (Int.toNat (eQ au aK))
def Z6U(l:List Pl)(au:List Pl)(aK:av):D:=D.int .i64 (D.aj (D.ar (Am l au aK) 5))
def Z6T(l:List Pl)(au:List Pl)(aK:av):D:=D.int .i64 (D.aj (D.ar (Am l au aK) 4))
def Z6S(l:List Pl)(au:List Pl)(aK:av):D:=D.int .i64 (D.aj (D.ar (Am l au aK) 3))
def Z6V(l:List Pl)(au:List Pl)(aK:av):Nat×En:=(0,En.mk 0 none (Obj.box (50:TypeId) [P.d (Z6S l au aK),P.d (Z6T l au aK),P.d (Z6U l au aK)]))
def J3:Nat×P:=(5,iQ)
def kY:Nat×P:=(4,bT)
def Z6O(au:List Pl)(aK:av)(l:List Pl):Bool:=decide ((0:Int)<=eQ au aK/\eQ au aK<(↑(s5 l):Int))
def Z6N(au:List Pl)(aK:av):Bool:=decide (eQ au aK<(0:Int))
def Z6M(x:av)(y:av):Bool:=Prod.fst x==Prod.fst y&&(im x==im y&&true)&&(gU x==gU y&&true)
abbrev wiL(z:Bool)(l:List Pl)(n:Nat)(x y:av)(k:Int):S:=⟨28,[(0,.sl 0 0 n),(4,.ref 1 0 0),(5,.ref 2 0 0),(7,iD k)],Ch z l++bxI 1 x++bxI 2 y⟩
def qdW:S->K (PX×S):=λs ae=> ∃z l x y,s=wiL z l l.length x y 0/\l.length<=1000000/\(∀b,b=within l x y->ae (.ret,⟨28,[(0,.sl 0 0 l.length),(6,.d (.bool b))],Ch z l⟩))/\(within l x y=true->ae (.exit 0,⟨28,[(0,.sl 0 0 l.length)],Ch z l⟩))
def YP(y:av):List (Nat×En):=[(2,pq y)]
def s6:P:=P.ref 2 0 0
def HW:Nat×P:=(4,iQ)
def EM(au:List Pl)(aK:av):D:=D.nth (iG au) (Int.toNat (eQ au aK))
def Z6W(au:List Pl)(aK:av):Bool:=decide (Int.toNat (eQ au aK)<s5 au)
theorem qg4(z:Bool)(l:List Pl)(n:Nat)(x y:av)(k:Int)(ae:PX×S->Prop):(bif decide (k<=(↑n:Int)) then bif Z6M x y then ae (PX.ret,S.mk 28 [rV n,(6,ZO)] (EL z l)) else∃(N8:Bool) (au:List Pl) (aK:av),ZB n::jf x=uj au::jf aK/\EL z l=EL N8 au/\oK au/\bif Z6N au aK then ae (PX.ret,S.mk 28 (rV n::Z4p) (EL N8 au)) else bif decide ((0:Int)<=eQ au aK/\eQ au aK<(↑n:Int)) then bif Z6W au aK then bif cx PR (104:TypeId) (EM au aK) then bif Zj k then ae (PX.normal,S.mk 28 (rV n::HW::(5,s6)::ZL k) (N7 N8 au::(1,En.mk 0 none (Obj.box (50:TypeId) [P.d (D.int .i64 (D.aj (D.ar (EM au aK) 3))),P.d (D.int .i64 (D.aj (D.ar (EM au aK) 4))),P.d (D.int .i64 (D.aj (D.ar (EM au aK) 5)))]))::YP y)) else False else False else False else False else ae (PX.exit 0,S.mk 28 [rV n] (EL z l)))=(aD [(87,S8)] [] 86 2 (wiL z l n x y k)) ae:=by kernel_rfl
theorem qdX(z:Bool)(l:List Pl)(n:Nat)(x y:av)(ae:P×List (Nat×En)->Prop):(∃(N8:Bool) (au:List Pl) (aK:av) (DE:av),S.mk 28 (rV n::HW::(5,s6)::sw) (N7 z l::(1,pq x)::YP y)=S.mk 28 ((0,uj au)::HW::(5,s6)::sw) (N7 N8 au::(1,pq aK)::YP DE)/\oK au/\(∀(b:Bool),b=within au aK DE->ae (fI b,EL N8 au))/\(within au aK DE=true->ae (ZO,EL N8 au)))=(aJ [] [(2,ah (aL 86 2) qdW)] 86 [.sl 0 0 n,.d (bH x),.d (bH y)] (Ch z l)) ae:=by kernel_rfl
def qdY:bm:=λps R ae=> ∃z l x y,ps=[.sl 0 0 l.length,.d (bH x),.d (bH y)]/\R=Ch z l/\l.length<=1000000/\ ∀b,b=within l x y->ae (.d (.bool b),Ch z l)
abbrev qdZ(l:List Pl)(x:av)(k:Int):S:=⟨39,[(0,eM l),(3,.ref 0 0 0),(5,iD k)],bxI 0 x⟩
def gRo:S->K (PX×S):=λs ae=> ∃l x,s=qdZ l x 0/\l.length<=1000000/\(∀b,b=lK l x->ae (.ret,⟨39,[(4,.d (.bool b))],[]⟩))/\(lK l x=false->ae (.exit 0,⟨39,[],[]⟩))
def Z71(ae:PX×S->Prop):Prop:=ae (PX.ret,S.mk 39 Zi [])
theorem qg5(l:List Pl)(x:av)(k:Int)(ae:PX×S->Prop):(bif decide (k<=(↑(s5 l):Int)) then∃(au:List Pl) (aK:av),lZ l::jf x=lZ au::jf aK/\Zx/\oK au/\bif Z6N au aK then Z71 ae else bif Z6O au aK l then bif cx PR (104:TypeId) (Am l au aK) then bif D.aj (D.ar (Am l au aK) 3)==(0:Int)&&(D.aj (D.ar (Am l au aK) 4)==(0:Int)&&true)&&(D.aj (D.ar (Am l au aK) 5)==(0:Int)&&true) then ae (PX.ret,S.mk 39 G8 []) else∃(eX:List Pl) (x:av),[lZ l,P.d (D.agg [Z6S l au aK,Z6T l au aK,Z6U l au aK])]=lZ eX::jf x/\Zx/\oK eX/\bif Z6N eX x then Z71 ae else bif Z6O eX x l then bif cx PR (104:TypeId) (Am l eX x) then bif !D.ff (D.ar (Am l eX x) 7) then Z71 ae else bif Zj k then ae (PX.normal,S.mk 39 (uH l::cN::Zo k) [Z6V l au aK]) else False else False else False else False else False else ae (PX.exit 0,S.mk 39 [] []))=(aD [(87,S3)] [] 119 2 (qdZ l x k)) ae:=by kernel_rfl
theorem qg6(l:List Pl)(x:av)(ae:P×List (Nat×En)->Prop):(∃(au:List Pl) (aK:av),S.mk 39 (uH l::cN::ZN) (J2 x)=S.mk 39 (uH au::cN::ZN) (J2 aK)/\oK au/\(∀(b:Bool),b=lK au aK->ae (fI b,[]))/\(lK au aK=false->Z4 ae))=(aJ [] [(2,ah (aL 119 2) gRo)] 119 [eM l,.d (bH x)] []) ae:=by kernel_rfl
def qd0:bm:=λps R ae=> ∃l x,ps=[eM l,.d (bH x)]/\R=[]/\l.length<=1000000/\ ∀b,b=lK l x->ae (.d (.bool b),[])
def Ha:bm:=λps R ae=> ∃l x,ps=[.sl 0 0 l.length,.d (bH x)]/\R=Ch false l/\l.length<=1000000/\ae (iD (eQ l x),Ch false l)
abbrev riH(l o:List Pl)(n:Nat)(k:Int):S:=⟨43,[(0,eM l),(3,.sl 0 0 n),(4,iD k)],[(0,⟨0,none,.arr 104 false (o.map bP)⟩)]⟩
def gRi:S->K (PX×S):=λs ae=> ∃l,s=riH l [] 0 0/\l.length<=1000000/\ae (.exit 0,⟨43,[(3,.sl 0 0 (pn l).length)],[(0,⟨0,none,.arr 104 false ((pn l).map bP)⟩)]⟩)
def Pp(au:List Pl):En:=En.mk 0 none (Obj.arr (104:TypeId) false (iG au))
def HX(au:List Pl):List (Nat×En):=[(0,Pp au)]
def Z7c(k:Int)(ae:PX×S->Prop)(l:List Pl)(n:Nat)(au:List Pl):Prop:=bif Zj k then ae (PX.normal,S.mk 43 (uH l::(3,ZB n)::ua k) (HX au)) else False
def N9(l:List Pl)(k:Int):D:=D.int .i64 (D.aj (D.ar (oY l k) 2))
def Oa(l:List Pl)(k:Int):D:=D.int .i64 (D.aj (D.ar (oY l k) 1))
def Ob(l:List Pl)(k:Int):D:=D.int .i64 (D.aj (D.ar (oY l k) 0))
def YQ(l:List Pl)(k:Int):List D:=[Ob l k,Oa l k,N9 l k,D.int .i64 (D.aj (D.ar (oY l k) 3)),D.int .i64 (D.aj (D.ar (oY l k) 4)),D.int .i64 (D.aj (D.ar (oY l k) 5)),D.str (D.eO (D.ar (oY l k) 6)),D.bool (D.ff (D.ar (oY l k) 7))]
def Z79(n:Nat)(au:List Pl)(l:List Pl)(k:Int):En:=En.mk 0 none (Obj.arr (104:TypeId) false (List.take n (iG au)++[D.agg (YQ l k)]))
def Z78(n:Nat)(l:List Pl)(k:Int):Nat:=n+List.length [D.agg (YQ l k)]
def YR(o:List Pl):List (Nat×En):=[(0,En.mk 0 (some 0) (Obj.arr (104:TypeId) false (iG o)))]
def J4(l:List Pl)(k:Int):P:=P.d (D.agg [Ob l k,Oa l k,N9 l k])
theorem qjr(l o:List Pl)(n:Nat)(k:Int)(ae:PX×S->Prop):(bif Z6q k l then bif G7 k l then bif ri l k then∃(t:Int) (r:Int) (i:Int),[J4 l k]=HQ t r i/\Zx/\bif cy t r i then bif G7 k l then bif ri l k then∃(s:List UInt8),[P.d (D.str (D.eO (D.ar (oY l k) 6)))]=wu s/\Zx/\bif dQ s then bif G7 k l then bif ri l k then∃(au:List Pl) (x:av),[ZB n,J4 l k]=uj au::jf x/\YR o=YR au/\oK au/\bif Z6N au x then bif G7 k l then bif ri l k then bif Nat.ble n (s5 au)&&aO (Z78 n l k) 72 then bif Zj k then ae (PX.normal,S.mk 43 (uH l::(3,P.sl 0 0 (Z78 n l k))::ua k) [(0,Z79 n au l k)]) else False else False else False else False else Z7c k ae l n au else False else False else Z7c k ae l n o else False else False else Z7c k ae l n o else False else False else ae (PX.exit 0,S.mk 43 [(3,ZB n)] (HX o)))=(aD [(151,ny),(138,B0),(87,Ha)] [] 118 3 (riH l o n k)) ae:=by kernel_rfl
def Z7f(au:List Pl):Nat×En:=(0,En.mk 0 none (Obj.arr (104:TypeId) false (List.map bP (pn au))))
def An:En:=En.mk 0 none (Obj.arr (104:TypeId) false [])
def Z7e(l:List Pl):S:=S.mk 43 (uH l::SE) [(0,An)]
theorem qg7(l:List Pl)(ae:P×List (Nat×En)->Prop):(∃(au:List Pl),Z7e l=Z7e au/\oK au/\ae (P.sl 0 0 (List.length (pn au)),[Z7f au]))=(aJ [] [(3,ah (aL 118 3) gRi)] 118 [eM l] []) ae:=by kernel_rfl
def hRi:bm:=λps R ae=> ∃l,ps=[eM l]/\R=[]/\l.length<=1000000/\ae (.sl 0 0 (pn l).length,[(0,⟨0,none,.arr 104 false ((pn l).map bP)⟩)])
abbrev bxP(n:Nat)(p:Pl):List (Nat×En):=[(n,⟨0,none,.box 104 [.d (.int .i64 p.1.1),.d (.int .i64 p.1.2.1),.d (.int .i64 p.1.2.2),.d (.int .i64 p.2.1.1),.d (.int .i64 p.2.1.2.1),.d (.int .i64 p.2.1.2.2),.d (.str p.2.2.1),.d (.bool p.2.2.2)]⟩)]
abbrev naH(l:List Pl)(p:Pl)(k:Int):S:=⟨54,[(0,eM l),(3,.ref 0 0 0),(5,iD k)],bxP 0 p⟩
def Pq(p q:Pl):Bool:=decide (q.2.1=p.2.1)&&(q.2.2.1==p.2.2.1)&&mO q.1 p.1
def gNa:S->K (PX×S):=λs ae=> ∃l p,s=naH l p 0/\l.length<=1000000/\(l.any (Pq p)=true->ae (.ret,⟨54,[(3,.ref 0 0 0),(4,sD (lJ p.2.2.1 p.1.1 p.1.2.1 p.1.2.2).1)],bxP 0 p⟩))/\(l.any (Pq p)=false->ae (.exit 0,⟨54,[(3,.ref 0 0 0)],bxP 0 p⟩))
def HY:List (Nat×P):=[cN]
def Pr(p:Pl):List UInt8:=Prod.fst (Prod.snd (Prod.snd p))
def Tc(p:Pl):Int:=Prod.snd (Prod.snd (Prod.fst (Prod.snd p)))
def Te(p:Pl):Int:=Prod.fst (Prod.snd (Prod.fst (Prod.snd p)))
def Tf(p:Pl):Int:=Prod.fst (Prod.fst (Prod.snd p))
def YS(p:Pl):D:=D.int .i64 (Prod.snd (Prod.snd (Prod.fst p)))
def YT(p:Pl):D:=D.int .i64 (Prod.fst (Prod.snd (Prod.fst p)))
def YU(p:Pl):D:=D.int .i64 (Prod.fst (Prod.fst p))
def Tj(p:Pl):List (Nat×En):=[(0,En.mk 0 none (Obj.box (104:TypeId) [P.d (YU p),P.d (YT p),P.d (YS p),P.d (D.int .i64 (Tf p)),P.d (D.int .i64 (Te p)),P.d (D.int .i64 (Tc p)),P.d (D.str (Pr p)),P.d (D.bool (Prod.snd (Prod.snd (Prod.snd p))))]))]
def Z7r(k:Int)(ae:PX×S->Prop)(l:List Pl)(p:Pl):Prop:=bif Zj k then ae (PX.normal,S.mk 54 (uH l::cN::Zo k) (Tj p)) else False
def Tk(t:Int)(r:Int)(i:Int)(t':Int)(r':Int)(i':Int):Bool:=decide (ze t r i t' r' i'<(0:Int))
def Tm(t:Int)(r:Int)(i:Int)(t':Int)(r':Int)(i':Int):List P:=P.d (D.agg (Zt t::Zt r::ZE i))::HQ t' r' i'
def Z7n(p:Pl):List P:=[P.d (D.agg [YU p,YT p,YS p])]
theorem qg8(l:List Pl)(p:Pl)(k:Int)(ae:PX×S->Prop):(bif Z6q k l then bif G7 k l then bif ri l k then bif D.aj (D.ar (oY l k) 3)==Tf p&&(D.aj (D.ar (oY l k) 4)==Te p&&true)&&(D.aj (D.ar (oY l k) 5)==Tc p&&true) then bif G7 k l then bif ri l k then bif D.eO (D.ar (oY l k) 6)==Pr p then bif G7 k l then bif ri l k then∃(t:Int) (r:Int) (i:Int) (t':Int) (r':Int) (i':Int),J4 l k::Z7n p=Tm t r i t' r' i'/\Zx/\bif Tk t r i t' r' i' then∃(s:List UInt8) (t:Int) (r:Int) (i:Int),P.d (D.str (Pr p))::Z7n p=P.d (D.str s)::HQ t r i/\Zx/\ae (PX.ret,S.mk 54 [cN,(4,P.d (D.str (Prod.fst (lJ s t r i))))] (Tj p)) else Z7r k ae l p else False else False else Z7r k ae l p else False else False else Z7r k ae l p else False else False else ae (PX.exit 0,S.mk 54 HY (Tj p)))=(aD [(88,jc),(152,Jq)] [] 120 2 (naH l p k)) ae:=by kernel_rfl
theorem qg9(l:List Pl)(p:Pl)(ae:P×List (Nat×En)->Prop):(∃(au:List Pl) (mB:Pl),S.mk 54 (uH l::cN::ZN) (Tj p)=S.mk 54 (uH au::cN::ZN) (Tj mB)/\oK au/\(List.any au (Pq mB)=true->ae (P.d (D.str (Prod.fst (lJ (Pr mB) (Prod.fst (Prod.fst mB)) (Prod.fst (Prod.snd (Prod.fst mB))) (Prod.snd (Prod.snd (Prod.fst mB)))))),[]))/\(List.any au (Pq mB)=false->ae (P.d (D.str (Pr mB)),[])))=(aJ [] [(2,ah (aL 120 2) gNa)] 120 [eM l,.d (bP p)] []) ae:=by kernel_rfl
def hNa:bm:=λps R ae=> ∃l p,ps=[eM l,.d (bP p)]/\R=[]/\l.length<=1000000/\ ∀s,s=N5 l p->ae (sD s,[])
abbrev paH(l:List Pl)(p:Pl)(s:List UInt8):S:=⟨28,[(0,eM l),(3,.ref 0 0 0),(5,sD s)],bxP 0 p⟩
inductive Tn(T:List Pl)(V:List av)(x:av)(p:Pl):Prop
 |mk (h1:marked T V x=true) (h2:ez T x=some p)
def gPa:S->K (PX×S):=λs ae=> ∃T V x p w,s=paH (bg T V) p ([47]++N5 (bg T V) p)/\(T.length<=1000/\Rt T/\Tn T V x p/\Up T x w)/\ae (.exit 0,⟨28,[(5,sD (qb (w.reverse.map (LV T V))))],[]⟩)
def Z7u(iP:List UInt8):List UInt8:=[(47:UInt8)]++iP
def Z7t(p:Pl):List P:=[P.d (D.agg [YU p,YT p,YS p,D.int .i64 (Tf p),D.int .i64 (Te p),D.int .i64 (Tc p),D.str (Pr p),D.bool (Prod.snd (Prod.snd (Prod.snd p)))])]
theorem qjs(l:List Pl)(p:Pl)(s:List UInt8)(ae:PX×S->Prop):(bif !(Tf p==(0:Int)&&(Te p==(0:Int)&&true)&&(Tc p==(0:Int)&&true)) then∃(au:List Pl) (x:av),[lZ l,P.d (D.agg [D.int .i64 (Tf p),D.int .i64 (Te p),D.int .i64 (Tc p)])]=lZ au::jf x/\Zx/\oK au/\bif Z6O au x l then bif cx PR (104:TypeId) (Am l au x) then∃(eX:List Pl) (p:Pl),[lZ l,P.d (D.agg [D.int .i64 (D.aj (D.ar (Am l au x) 0)),D.int .i64 (D.aj (D.ar (Am l au x) 1)),D.int .i64 (D.aj (D.ar (Am l au x) 2)),Z6S l au x,Z6T l au x,Z6U l au x,D.str (D.eO (D.ar (Am l au x) 6)),D.bool (D.ff (D.ar (Am l au x) 7))])]=lZ eX::Z7t p/\Zx/\oK eX/\ ∀(iP:List UInt8),iP=N5 eX p->bif decide (1+sx iP<=Zy) then bif decide (List.length (Z7u iP)+sx s<=Zy) then ae (PX.normal,S.mk 28 [uH l,cN,(5,P.d (D.str (Z7u iP++s)))] [(0,En.mk 0 none (Obj.box (104:TypeId) [P.d (D.int .i64 (D.aj (D.ar (Am l au x) 0))),P.d (D.int .i64 (D.aj (D.ar (Am l au x) 1))),P.d (D.int .i64 (D.aj (D.ar (Am l au x) 2))),P.d (Z6S l au x),P.d (Z6T l au x),P.d (Z6U l au x),P.d (D.str (D.eO (D.ar (Am l au x) 6))),P.d (D.bool (D.ff (D.ar (Am l au x) 7)))]))]) else False else False else False else False else ae (PX.exit 0,S.mk 28 [(5,P.d (D.str s))] []))=(aD [(120,hNa),(87,S3)] [] 90 2 (paH l p s)) ae:=by kernel_rfl
theorem qha(l:List Pl)(p:Pl)(ae:P×List (Nat×En)->Prop):(∃(au:List Pl) (mB:Pl),lZ l::Z7t p=lZ au::Z7t mB/\Zx/\oK au/\ ∀(s:List UInt8),s=N5 au mB->bif decide (1+sx s<=Zy) then∃(T:List Pl) (V:List av) (x:av) (p_2:Pl) (w:List av),S.mk 28 [uH l,cN,(5,P.d (D.str (Z7u s)))] (Tj p)=S.mk 28 [(0,P.d (D.sl 8 (List.map bP (bg T V)))),cN,(5,P.d (D.str ([(47:UInt8)]++N5 (bg T V) p_2)))] (Tj p_2)/\(km T<=1000/\Rt T/\Tn T V x p_2/\Up T x w)/\ae (P.d (D.str (qb (List.map (LV T V) (List.reverse w)))),[]) else False)=(aJ [(120,hNa)] [(2,ah (aL 90 2) gPa)] 90 [eM l,.d (bP p)] []) ae:=by kernel_rfl
def hPa:bm:=λps R ae=> ∃T V p,ps=[eM (bg T V),.d (bP p)]/\R=[]/\(T.length<=1000/\Rt T/\p∈bg T V)/\ae (sD (LW T V p.1),[])
theorem qS{l:List Pl}{x:av}(h:ez l x=none):eQ l x= -1:=by refine LX λp hp=> ?_;unfold ez at h;simpa using zb5.1 h p hp
theorem nH{l:List Pl}{x:av}{p:Pl}(h:ez l x=some p): ∃i:Nat,eQ l x=(i:Int)/\i<l.length/\l.getD i tW=p:=by
 unfold ez at h;obtain⟨h1,i,hi,h2,h3⟩:=zc0.1 h;refine⟨i,G9 (x:=p) (by rw[zae hi,h2]) h1 λy hy=> ?_,hi,?_⟩
 ·obtain⟨j,hj,rfl⟩:=zaW hy;rw[List.getElem_take];rw[zay] at hj;simpa using h3 j (by omega)
 rw[zac,zae hi];exact h2
section
variable{X:XF}
theorem qd1{x y:av}(h:(x.1==y.1&&(x.2.1==y.2.1&&true)&&(x.2.2==y.2.2&&true))=true):x=y:=by rw[uk] at h;simpa using h
theorem qd2{x y:av}(h:(x.1==y.1&&(x.2.1==y.2.1&&true)&&(x.2.2==y.2.2&&true))=false):x≠y:=by rw[uk] at h;simpa using h
theorem YV:LD X 86 2 (ah (aL 86 2) qdW):=LD.par (H:=[(87,S8)]) (hk:=[]) (by kernel_rfl) (by kernel_rfl) (.cons Tb .nil) .nil
 (A:=List Pl×av×av×Bool) (B:=av×Int) (λa b=>wiL a.2.2.2 a.1 a.1.length b.1 a.2.2.1 b.2)
 (λa b=>a.1.length<=1000000/\0<=b.2/\b.2<=a.1.length+1/\mv a.1 (a.1.length+1-b.2.toNat) b.1 a.2.2.1=within a.1 a.2.1 a.2.2.1)
 (λa b=>a.1.length+1-b.2.toNat)
 (λa r=>(r=(.ret,⟨28,[(0,.sl 0 0 a.1.length),(6,.d (.bool (within a.1 a.2.1 a.2.2.1)))],Ch a.2.2.2 a.1⟩))\/(within a.1 a.2.1 a.2.2.1=true/\r=(.exit 0,⟨28,[(0,.sl 0 0 a.1.length)],Ch a.2.2.2 a.1⟩)))
 (by
  rintro⟨l,x0,y,z⟩ ⟨x,k⟩ ⟨hm,h0,hk,hw⟩;dsimp only at*
  (rw[<-qg4];delta gU gT im gJ gK pq YP iG N7 Zn ZL s6 iQ HW Za Z9 Zj EM s5 Z6W Z3 Z4p Z6N km oK uj ve jf ZB EL ZO rV Z6M)
  refine bk (λh=> ?_) λh=> ?_
  ·obtain⟨n,hn⟩: ∃n,l.length+1-k.toNat=n+1:=⟨l.length-k.toNat,by omega⟩
   rw[hn] at hw;simp only[mv] at hw;refine az (λhe=> ?_) λhe=>⟨z,l,x,rfl,rfl,hm,?_⟩
   ·rw[zao (qd1 he)] at hw;left;rw[<-hw]
   rw[zal (qd2 he)] at hw;cases hp:ez l x with
   |none=>rw[hp] at hw;rw[qS hp];refine fT (lG (by decide)) (.inl ?_);simp only at hw;rw[<-hw]
   |some p=>rw[hp] at hw;obtain⟨i,hi,bR,hip⟩:=nH hp;rw[hi];simp only[zb7];rw[jd bR,hip];refine lD (lH (by omega)) (bu ⟨by omega,by omega⟩ (aq (lG (by rw[zaa];exact bR)) (aq (ig p) (aq (p9 (by omega) (by omega)) ⟨l.length+1-(k+1).toNat,by omega,(p.2.1,k+1),rfl,⟨hm,by simp only;omega,by simp only;omega,?_⟩,rfl⟩))));simp only;rw[show l.length+1-(k+1).toNat=n by omega];exact hw
  have:l.length+1-k.toNat=0:=by omega
  rw[this] at hw;exact .inr ⟨hw.symm,rfl⟩)
 (by
  rintro s ae ⟨z,l,x,y,rfl,hm,h1,h2⟩;refine⟨(l,x,y,z),(x,0),rfl,⟨hm,by simp,by simp only;omega,rfl⟩,?_⟩;rintro r (rfl | ⟨h3,rfl⟩)
  ·exact h1 _ rfl
  exact h2 h3)
theorem qbH:FD X 86 qdY:=FD.mk (H:=[]) (hk:=[(2,ah (aL 86 2) qdW)]) (by kernel_rfl) .nil (.cons YV .nil) (by
 intro ps R ae hh;obtain⟨z,l,x,y,rfl,rfl,hm,hp⟩:=hh
 (rw[<-qdX];delta ZO iG N7 EL fI km oK uj gU gT im gJ gK pq YP Z7 sw s6 iQ HW ZB rV)
 exact⟨z,l,x,y,rfl,hm,λb hb=>hp b hb,λh=>hp true h.symm⟩)
theorem qd3:LD X 119 2 (ah (aL 119 2) gRo):=LD.par (H:=[(87,S3)]) (hk:=[]) (by kernel_rfl) (by kernel_rfl) (.cons qbF .nil) .nil
 (A:=List Pl×av) (B:=av×Int) (λa b=>qdZ a.1 b.1 b.2)
 (λa b=>a.1.length<=1000000/\0<=b.2/\b.2<=a.1.length+1/\tX a.1 (a.1.length+1-b.2.toNat) b.1=lK a.1 a.2)
 (λa b=>a.1.length+1-b.2.toNat)
 (λa r=>(r=(.ret,⟨39,[(4,.d (.bool (lK a.1 a.2)))],[]⟩))\/(lK a.1 a.2=false/\r=(.exit 0,⟨39,[],[]⟩)))
 (by
  rintro⟨l,x0⟩ ⟨x,k⟩ ⟨hm,h0,hk,hw⟩;dsimp only at*
  (rw[<-qg5];delta iG Am Z6U Z6T Z6S Z6V Zn Zo bT cN lZ uH Za Z9 Zj ZO G8 s5 Z6O Z3 Zi Z71 Z6N km oK Zx gU gT im gJ gK ve jf)
  simp only[zaa];refine bk (λh=> ?_) λh=> ?_
  ·obtain⟨n,hn⟩: ∃n,l.length+1-k.toNat=n+1:=⟨l.length-k.toNat,by omega⟩
   rw[hn] at hw;simp only[tX] at hw;refine⟨l,x,rfl,rfl,hm,?_⟩;cases hp:ez l x with
   |none=>rw[hp] at hw;rw[qS hp];refine fT (lG (by decide)) (.inl ?_);simp only at hw;rw[<-hw]
   |some p=>
    rw[hp] at hw;simp only at hw;obtain⟨i,hi,bR,hip⟩:=nH hp;rw[hi];simp only[zb7];rw[jd bR,hip];refine lD (lH (by omega)) (bu ⟨by omega,by omega⟩ (aq (ig p) (az (λhe=> ?_) λhe=>⟨l,p.2.1,rfl,rfl,hm,?_⟩)))
    ·rw[zao (qd1 (y:=aB) he)] at hw;left;rw[<-hw]
    rw[zal (qd2 (y:=aB) he)] at hw;cases hq:ez l p.2.1 with
    |none=>rw[hq] at hw;rw[qS hq];refine fT (lG (by decide)) (.inl ?_);simp only at hw;rw[<-hw]
    |some q=>
     rw[hq] at hw;simp only at hw;obtain⟨j,hj,Ff,hjq⟩:=nH hq;rw[hj];simp only[zb7];rw[jd Ff,hjq];refine lD (lH (by omega)) (bu ⟨by omega,by omega⟩ (aq (ig q) (az (λhd=> ?_) λhd=>aq (p9 (by omega) (by omega)) ⟨l.length+1-(k+1).toNat,by omega,(p.2.1,k+1),rfl,⟨hm,by simp only;omega,by simp only;omega,?_⟩,rfl⟩)))
     ·have QT:(!q.2.2.2)=true:=hd;rw[zao (by simpa using QT)] at hw;left;rw[<-hw]
     have QT:(!q.2.2.2)=false:=hd;rw[zal (by simpa using QT)] at hw;simp only;rw[show l.length+1-(k+1).toNat=n by omega];exact hw
  have:l.length+1-k.toNat=0:=by omega
  rw[this] at hw;exact .inr ⟨hw.symm,rfl⟩)
 (by
  rintro s ae ⟨l,x,rfl,hm,h1,h2⟩;refine⟨(l,x),(x,0),rfl,⟨hm,by simp,by simp only;omega,rfl⟩,?_⟩;rintro r (rfl | ⟨h3,rfl⟩)
  ·exact h1 _ rfl
  exact h2 h3)
theorem qhb:FD X 119 qd0:=FD.mk (H:=[]) (hk:=[(2,ah (aL 119 2) gRo)]) (by kernel_rfl) .nil (.cons qd3 .nil) (by
 intro ps R ae hh;obtain⟨l,x,rfl,rfl,hm,hp⟩:=hh
 (rw[<-qg6];delta Z3 Z4 fI km oK gU gT im gJ gK pq w9 J2 Z7 ZN bT cN iG lZ uH)
 exact⟨l,x,rfl,hm,λb hb=>hp b hb,λh=>hp false h.symm⟩)
theorem Tp:FD X 87 Ha:=Tb.weaken λps R ae h=>by obtain⟨l,x,h1,h2,h3,h4⟩:=h;exact⟨false,l,x,h1,h2,h3,h4⟩
theorem Hb{l:List Pl}{x:av}:eQ l x<0↔(ez l x).isSome=false:=by
 cases h:ez l x with
 |none=>rw[qS h];simp
 |some p=>obtain⟨i,hi,_⟩:=nH h;rw[hi];simp
theorem xE(l:List Pl):(l.map bP).take l.length=l.map bP:=zah (by simp)
theorem qd4:LD X 118 3 (ah (aL 118 3) gRi):=LD.par (H:=[(151,ny),(138,B0),(87,Ha)]) (hk:=[]) (by kernel_rfl) (by kernel_rfl) (.cons sv (.cons DC (.cons Tp .nil))) .nil
 (A:=List Pl) (B:=Int) (λa k=>riH a (pn (a.take k.toNat)) (pn (a.take k.toNat)).length k)
 (λa k=>a.length<=1000000/\0<=k/\k.toNat<=a.length)
 (λa k=>(a.length-k).toNat)
 (λa x=>x=(.exit 0,⟨43,[(3,.sl 0 0 (pn a).length)],[(0,⟨0,none,.arr 104 false ((pn a).map bP)⟩)]⟩))
 (by
  rintro l k ⟨hm,h0,h1⟩
  (rw[<-qjr];delta iG Pp HX Zn ua ZB lZ uH Za Z9 Zj Z7c Zg oY N9 Oa Ob YQ Z79 Z78 s5 Z6N km oK YR gU gT im gJ gK ve jf uj wu Zx Zt ZE HQ J4 ri G7 Z6q)
  simp only[zaa];refine bk (λh=> ?_) λh=> ?_
  ·have hk:k.toNat<l.length:=by omega
   rw[jd hk];have e:pn (l.take (k+1).toNat)=Jw (pn (l.take k.toNat)) (l.getD k.toNat tW):=by rw[show(k+1).toNat=k.toNat+1 by omega];exact Jx Jw [] l _ k.toNat hk
   have htl:=Ea (l.take k.toNat);rw[zay] at htl;generalize l.getD k.toNat tW=p at e;generalize pn (l.take k.toNat)=T at e htl;have go: ∀T',Jw T p=T'-> ∃m,m<((l.length:Int)-k).toNat/\ ∃b,(riH l T' T'.length (k+1):S)=riH l (pn (l.take b.toNat)) (pn (l.take b.toNat)).length b/\(l.length<=1000000/\0<=b/\b.toNat<=l.length)/\m=((l.length:Int)-b).toNat:=λT' hT=>⟨((l.length:Int)-(k+1)).toNat,by omega,k+1,by rw[e,hT],⟨hm,by omega,by omega⟩,rfl⟩
   have fit:decide ((-9223372036854775808:Int)<=k+(1:Int)/\k+(1:Int)<=(9223372036854775807:Int))=true:=p9 (by omega) (by omega);refine bu ⟨h0,by omega⟩ (aq (ig _) ⟨p.1.1,p.1.2.1,p.1.2.2,rfl,rfl,az (λh3=>bu ⟨h0,by omega⟩ (aq (ig _) ⟨p.2.2.1,rfl,rfl,az (λh4=>bu ⟨h0,by omega⟩ (aq (ig _) ⟨T,p.1,rfl,rfl,by omega,az (λh5=>bu ⟨h0,by omega⟩ (aq (ig _) (aq ?_ (aq fit ?_)))) λh5=>aq fit ?_⟩)) λh4=>aq fit ?_⟩)) λh3=>aq fit ?_⟩)
   ·simp[aO];omega
   ·have hs:(ez T p.1).isSome=false:=Hb.1 (zbE h5);have:=go (T++[p]) (by unfold Jw;simp[hs,zh,h3,h4]);rw[xE];have e1:(T++[p]).length=T.length+1:=by simp
    have e2:(T++[p]).map bP=T.map bP++[bP p]:=by simp
    simp only[riH,e1,e2] at this;exact this
   ·have hs:(ez T p.1).isSome=true:=by
     cases hs:(ez T p.1).isSome with
     |true=>rfl
     |false=>exact absurd (Hb.2 hs) (zcn h5)
    exact go T (by unfold Jw;simp[hs])
   ·refine go T ?_;unfold Jw;split
    ·rfl
    rw[zal (by simp[zh,h4])]
   refine go T ?_;unfold Jw;split
   ·rfl
   rw[zal (by simp[zh,h3])]
  rw[zah (by omega)];rfl)
 (by rintro s ae ⟨l,rfl,hm,hp⟩;refine⟨l,0,rfl,⟨hm,by decide,by simp⟩,?_⟩;rintro x rfl;exact hp)
theorem qjt:FD X 118 hRi:=FD.mk (H:=[]) (hk:=[(3,ah (aL 118 3) gRi)]) (by kernel_rfl) .nil (.cons qd4 .nil) (by
 intro ps R ae hh;obtain⟨l,rfl,rfl,hm,hp⟩:=hh
 (rw[<-qg7];delta Z7f km oK An Z7 JU ZQ SE iG lZ uH Z7e)
 exact⟨l,rfl,hm,hp⟩)
theorem qd5:LD X 120 2 (ah (aL 120 2) gNa):=
 LD.scan (H:=[(88,jc),(152,Jq)]) (hk:=[]) (by kernel_rfl) (by kernel_rfl) (.cons nz (.cons RG .nil)) .nil
  (A:=List Pl×Pl) (λa k=>naH a.1 a.2 k) (·.1) tW (λa q=>Pq a.2 q) (λ_=>True)
  (λa _=>⟨54,[(3,.ref 0 0 0),(4,sD (lJ a.2.2.2.1 a.2.1.1 a.2.1.2.1 a.2.1.2.2).1)],bxP 0 a.2⟩) (λa=>⟨54,[(3,.ref 0 0 0)],bxP 0 a.2⟩)
  (by
   rintro⟨l,p⟩ k ae _ hm h0 hk dO ht hf;dsimp only at*
   (rw[<-qg8];delta bT cN HY Pr Tc Te Tf YS YT YU Tj Zn Zo iG lZ uH Za Z9 Zj Z7r Zt ZE HQ Tk Zx Tm Z7n Zg oY N9 Oa Ob J4 ri s5 G7 Z6q)
   simp only[zaa];rw[jd dO];generalize l.getD k.toNat tW=q at ht hf;have fit:decide ((-9223372036854775808:Int)<=k+(1:Int)/\k+(1:Int)<=(9223372036854775807:Int))=true:=p9 (by omega) (by omega);refine fT (lG hk) (bu ⟨h0,hk⟩ (aq (ig _) (az (λh1=>bu ⟨h0,hk⟩ (aq (ig _) (az (λh2=>bu ⟨h0,hk⟩ (aq (ig _) ⟨_,_,_,_,_,_,rfl,rfl,az (λh3=>⟨_,_,_,_,rfl,rfl,ht ?_⟩) λh3=>aq fit (hf ?_)⟩)) λh2=>aq fit (hf ?_)))) λh1=>aq fit (hf ?_))))
   ·have O1:q.2.1=p.2.1:=qd1 h1;have h3':=(ij q.1 p.1).1 (zbE h3);have h2':(q.2.2.1==p.2.2.1)=true:=h2;simp[Pq,O1,h2',h3']
   ·have h3': ¬mO q.1 p.1=true:=λh=>zcn h3 ((ij q.1 p.1).2 h);simp[Pq,h3']
   ·have h2':(q.2.2.1==p.2.2.1)=false:=h2;simp[Pq,h2']
   have O1:q.2.1≠p.2.1:=qd2 h1;simp[Pq,O1])
  (by
   rintro⟨l,p⟩ k ae _ hk hp;dsimp only at*
   (rw[<-qg8];delta bT cN HY Pr Tc Te Tf YS YT YU Tj Zn Zo iG lZ uH Za Z9 Zj Z7r Zt ZE HQ Tk Zx Tm Z7n Zg oY N9 Oa Ob J4 ri s5 G7 Z6q)
   simp only[zaa];exact lD (lH hk) hp)
  (by
   rintro s ae ⟨l,p,rfl,hm,h1,h2⟩;refine⟨(l,p),rfl,trivial,hm,λi hi h0=>h1 ?_,λh=>h2 ?_⟩
   ·rw[<-LZ (Pq p) l,<-hi];exact lG h0
   rw[<-LZ (Pq p) l];dsimp only at h;rw[h];rfl)
theorem qhc:FD X 120 hNa:=FD.mk (H:=[]) (hk:=[(2,ah (aL 120 2) gNa)]) (by kernel_rfl) .nil (.cons qd5 .nil) (by
 intro ps R ae hh;obtain⟨l,p,rfl,rfl,hm,hp⟩:=hh
 (rw[<-qg9];delta Pr km oK Tc Te Tf YS YT YU Tj Z7 ZN bT cN iG lZ uH)
 have e:N5 l p=if l.any (Pq p)=true then(lJ p.2.2.1 p.1.1 p.1.2.1 p.1.2.2).1 else p.2.2.1:=rfl
 exact⟨l,p,rfl,hm,λh=>hp _ (by rw[e,zao h]),λh=>hp _ (by rw[e,h];rfl)⟩)
theorem Tq{T:List Pl}{V:List av}(hu:Uq T):Uq (bg T V):=by unfold Uq;exact GA hu V
theorem Oc{T:List Pl}{V:List av}(hu:Uq T){x:av}{p:Pl}(h:marked T V x=true)(hp:ez T x=some p):ez (bg T V) x=some p:=by have:=Lt (Tq (V:=V) hu) (S0 h hp);rwa [(jG hp).2] at this
theorem qd6:LD X 90 2 (ah (aL 90 2) gPa):=LD.par (H:=[(120,hNa),(87,S3)]) (hk:=[]) (by kernel_rfl) (by kernel_rfl) (.cons qhc (.cons qbF .nil)) .nil
 (A:=List Pl×List av×List av) (B:=Pl×List UInt8×av×List av×List av) (λa b=>paH (bg a.1 a.2.1) b.1 b.2.1)
 (λ⟨T,V,w0⟩ ⟨p,s,x,v,w⟩=>T.length<=1000/\Rt T/\w0.length<=T.length/\marked T V x=true/\ez T x=some p/\Up T x w/\w0=v++w/\s=qb ((v++[x]).reverse.map (LV T V))/\(∀u∈w,marked T V u=true)/\(qb (w0.reverse.map (LV T V))).length<=201*T.length/\s.length<=201*(v.length+1))
 (λ_ b=>b.2.2.2.2.length)
 (λ⟨T,V,w0⟩ r=>r=(.exit 0,⟨28,[(5,sD (qb (w0.reverse.map (LV T V))))],[]⟩))
 (by
  rintro⟨T,V,w0⟩ ⟨p,s,x,v,w⟩ ⟨hm,hT,hw0,hmx,hpx,hw,CT,hs,hmw,hlen,KY⟩;dsimp only at*
  have hsL:(bg T V).length<=T.length:=zaU _ _
  (rw[<-qjs];delta bT cN iG lZ uH Z7u Zy sx Pr Tc Te Tf YS YT YU Z7t Am Z6U Z6T Z6S s5 Z6O km oK Zx gU gT im gJ gK ve jf)
  simp only[zaa];cases hw with
  |top h h0=>
   rw[hpx] at h;cases h;refine lD ?_ ?_
   ·rw[h0];rfl
   show _=_;rw[CT,hs]
  | @step _ p' q w' h h0 hq hd F9=>
   rw[hpx] at h;cases h;obtain⟨r,hr⟩:=F9.hd;have hmq:marked T V p.2.1=true:=hmw _ (by rw[hr];simp);have hqs:=Oc hT.1 hmq hq;obtain⟨i,hi,bR,vz⟩:=nH hqs;have rH:=xD (bg T V) (hT.2 q (jG hq).1);have hnx:LV T V p.2.1=N5 (bg T V) q:=by unfold LV;rw[hq]
   have Qg:v.length+1<=T.length:=by have:=congrArg List.length CT;simp at this;omega
   refine fT ?_ ⟨bg T V,p.2.1,rfl,rfl,by omega,?_⟩
   ·have:=uk p.2.1 (0,0,0);rw[show(p.2.1==(0,0,0))=false by simpa using h0] at this;simp only at this;show(!_)=true;rw[this];rfl
   rw[hi];simp only[zb7];rw[jd bR,vz];refine bu ⟨by omega,by omega⟩ (aq (ig q) ⟨bg T V,q,rfl,rfl,by omega,λs1 sX=> ?_⟩);subst sX;refine bu (by omega) (bu (by simp;omega) ⟨w'.length,by simp,(q,[47]++N5 (bg T V) q++s,p.2.1,v++[x],w'),rfl,⟨hm,hT,hw0,hmq,hq,F9,by rw[CT];simp,?_,λu hu=>hmw u (by simp[hu]),hlen,?_⟩,rfl⟩)
   ·simp only;rw[hs,<-hnx];simp[qb]
   simp only;simp;omega)
 (by
  rintro s ae ⟨T,V,x,p,w,rfl,⟨hm,hT,⟨hmx,hpx⟩,hw⟩,hp⟩;obtain⟨w2,hw2,mw⟩:=B4 hmx;have:=hw.one hw2;subst this;have hnx:LV T V x=N5 (bg T V) p:=by unfold LV;rw[hpx]
  have rH:=xD (bg T V) (hT.2 p (jG hpx).1);refine⟨(T,V,w),(p,[47]++N5 (bg T V) p,x,[],w),rfl,⟨hm,hT,hw.len,hmx,hpx,hw,rfl,by rw[<-hnx];simp[qb],mw,N6 hT hw,by simp;omega⟩,?_⟩;rintro r rfl;exact hp)
theorem qju:FD X 90 hPa:=FD.mk (H:=[(120,hNa)]) (hk:=[(2,ah (aL 90 2) gPa)]) (by kernel_rfl) (.cons qhc .nil) (.cons qd6 .nil) (by
 intro ps R ae hh;obtain⟨T,V,p,rfl,rfl,⟨hm,hT,hp0⟩,hp⟩:=hh;obtain⟨hpT,GX⟩:=YL hp0;have Fh:=Lt hT.1 hpT;obtain⟨w,hw,_⟩:=B4 GX;have hsL:(bg T V).length<=T.length:=zaU _ _;have rH:=xD (bg T V) (hT.2 p hpT)
 (rw[<-qha];delta km Pr Tc Te Tf YS YT YU Tj Z7u bT cN iG lZ uH Zy sx oK Zx Z7t)
 refine⟨bg T V,p,rfl,rfl,by omega,λs hs=> ?_⟩;subst hs;refine bu (by omega) ⟨T,V,p.1,p,w,rfl,⟨hm,hT,⟨GX,Fh⟩,hw⟩,?_⟩;unfold LW at hp;rw[S1 hw] at hp;exact hp)
end
abbrev L1(n:Nat)(z:Bool)(l:List Pl):List (Nat×En):=[(n,⟨0,none,.arr 104 z (l.map bP)⟩)]
abbrev Od(n:Nat)(l:List It):List (Nat×En):=[(n,⟨0,none,.arr 72 false (l.map fF)⟩)]
abbrev skH(z:Bool)(l:List Pl)(n:Nat)(v:List av)(o:List Pl)(m:Nat)(i:Int):S:=⟨62,[(0,.sl 0 0 n),(1,cX v),(5,.sl 1 0 m),(6,iD i)],L1 0 z l++L1 1 false o⟩
abbrev skI(z:Bool)(l:List Pl)(n:Nat)(v:List av)(o:List Pl)(m:Nat)(i:Int)(b:Bool)(k:Int):S:=⟨62,[(0,.sl 0 0 n),(1,cX v),(5,.sl 1 0 m),(6,iD i),(7,.d (.bool b)),(8,iD k)],L1 0 z l++L1 1 false o⟩
def L2(l:List Pl)(v:List av)(p q:Pl):Bool:=decide (q.1∈v)&&lK l q.1&&within l q.1 p.1
def qd7:S->K (PX×S):=λs ae=> ∃z l v o m i b,s=skI z l l.length v o m i b 0/\(l.length<=1000000/\v.length<=1000000/\0<=i/\i<l.length)/\
 ∀z' b',b'=(b ||l.any (L2 l v (l.getD i.toNat tW)))->ae (.exit 2,⟨62,[(0,.sl 0 0 l.length),(1,cX v),(5,.sl 1 0 m),(6,iD i),(7,.d (.bool b'))],L1 0 z' l++L1 1 false o⟩)
def Z7A(l:List Pl):Nat×En:=(0,En.mk 0 none (Obj.arr (104:TypeId) true (iG l)))
def qT(b:Bool):Nat×P:=(7,fI b)
def Hc(o:List Pl):List (Nat×En):=[(1,Pp o)]
def HZ(z:Bool)(kM:List Pl):Nat×En:=(0,En.mk 0 none (Obj.arr (104:TypeId) z (iG kM)))
def oL(k:Int):List (Nat×P):=[(8,P.d (Zn k))]
def H0(m:Nat):Nat×P:=(5,P.sl 1 0 m)
theorem qhd(z:Bool)(l:List Pl)(n:Nat)(v:List av)(o:List Pl)(m:Nat)(i:Int)(b:Bool)(k:Int)(ae:PX×S->Prop):(bif S6 k n then bif lY k n then bif HV k l then bif ri l k then∃(au:List av) (x:av),[ma v,J4 l k]=ma au::jf x/\Zx/\qp au/\bif decide (x∈au) then bif lY k n then bif HV k l then bif ri l k then∃(eX:List Pl) (x:av),[P.d (D.sl 8 (List.take n (iG l))),J4 l k]=lZ eX::jf x/\Zx/\oK eX/\ ∀(Tr:Bool),Tr=lK eX x->bif Tr then bif lY k n then bif HV k l then bif ri l k then bif lY i n then bif HV i l then bif ri l i then∃(z:Bool) (kM:List Pl) (x:av) (y:av),[ZB n,J4 l k,J4 l i]=uj kM::ve x::jf y/\[(0,En.mk 0 (some 0) (Obj.arr (104:TypeId) true (iG l)))]=EL z kM/\oK kM/\ ∀(b_2:Bool),b_2=within kM x y->bif b_2 then bif Zj k then ae (PX.normal,S.mk 62 (rV n::nN v::H0 m::ZK i::(7,ZO)::oL k) (HZ z kM::Hc o)) else False else bif Zj k then ae (PX.normal,S.mk 62 (rV n::nN v::H0 m::ZK i::qT b::oL k) (HZ z kM::Hc o)) else False else False else False else False else False else False else False else bif Zj k then ae (PX.normal,S.mk 62 (rV n::nN v::H0 m::ZK i::qT b::oL k) (Z7A l::Hc o)) else False else False else False else False else bif Zj k then ae (PX.normal,S.mk 62 (rV n::nN v::H0 m::ZK i::qT b::oL k) (HZ z l::Hc o)) else False else False else False else False else ae (PX.exit 2,S.mk 62 [rV n,nN v,H0 m,ZK i,qT b] (HZ z l::Hc o)))=(aD [(91,S9),(119,qd0),(86,qdY)] [] 89 8 (skI z l n v o m i b k)) ae:=by kernel_rfl
def Ec:List (Nat×P):=[(8,P.d Z7)]
theorem qhe(z:Bool)(l:List Pl)(n:Nat)(v:List av)(o:List Pl)(m:Nat)(i:Int)(ae:PX×S->Prop):(bif S6 i n then∃(N8:Bool) (au:List Pl) (cI:List av) (aP:List Pl) (bO:Nat) (aI:Int) (b:Bool),S.mk 62 (rV n::nN v::H0 m::ZK i::(7,P.d Z3)::Ec) (HZ z l::Hc o)=S.mk 62 ((0,uj au)::nN cI::H0 bO::ZK aI::qT b::Ec) (HZ N8 au::Hc aP)/\(oK au/\qp cI/\(0:Int)<=aI/\aI<(↑(km au):Int))/\ ∀(z' b':Bool),b'=(b ||List.any au (L2 au cI (List.getD au (Zg aI) tW)))->bif b' then bif decide ((0:Int)<=aI/\aI<(↑(km au):Int)) then bif HV aI au then bif ri au aI then bif Nat.ble bO (s5 aP)&&aO (Z78 bO au aI) 72 then bif Zj aI then ae (PX.normal,S.mk 62 ((0,uj au)::nN cI::(5,P.sl 1 0 (Z78 bO au aI))::ZA aI) [HZ z' au,(1,Z79 bO aP au aI)]) else False else False else False else False else False else bif Zj aI then ae (PX.normal,S.mk 62 ((0,uj au)::nN cI::H0 bO::ZA aI) (HZ z' au::Hc aP)) else False else ae (PX.exit 0,S.mk 62 [ZC m] (HX o)))=(aD [] [(8,ah (aL 89 8) qd7)] 89 4 (skH z l n v o m i)) ae:=by kernel_rfl
def qd8:S->K (PX×S):=λs ae=> ∃l v,s=skH false (pn l) (pn l).length v [] 0 0/\(l.length<=1000000/\v.length<=1000000)/\ae (.exit 0,⟨62,[(5,.sl 0 0 (bg (pn l) v).length)],L1 0 false (bg (pn l) v)⟩)
def Z7G(l:List Pl)(cI:List av):Nat×En:=(0,En.mk 0 none (Obj.arr (104:TypeId) false (List.map bP (bg (pn l) cI))))
def Ed:List (Nat×P):=[(6,P.d Z7)]
def uI:P:=P.sl 1 0 0
def Z7E:List (Nat×P):=(5,uI)::Ed
def Z7F(au:List Pl)(v:List av):S:=S.mk 62 ((0,P.sl 0 0 (List.length (pn au)))::nN v::Z7E) [Z7f au,(1,An)]
theorem qjv(l:List Pl)(v:List av)(ae:P×List (Nat×En)->Prop):(∃(au:List Pl),[lZ l]=[lZ au]/\Zx/\oK au/\ ∃(l:List Pl) (cI:List av),Z7F au v=Z7F l cI/\(oK l/\qp cI)/\ae (P.sl 0 0 (List.length (bg (pn l) cI)),[Z7G l cI]))=(aJ [(118,hRi)] [(4,ah (aL 89 4) qd8)] 89 [eM l,cX v] []) ae:=by kernel_rfl
def J5:bm:=λps R ae=> ∃l v,ps=[eM l,cX v]/\R=[]/\(l.length<=1000000/\v.length<=1000000)/\ae (.sl 0 0 (bg (pn l) v).length,L1 0 false (bg (pn l) v))
abbrev imH(z:Bool)(l:List Pl)(n:Nat)(v:List av)(o:List It)(m:Nat)(i:Int):S:=⟨77,[(1,cX v),(5,.sl 0 0 n),(6,.sl 1 0 m),(7,iD i)],L1 0 z l++Od 1 o⟩
abbrev imI(z:Bool)(l:List Pl)(n:Nat)(v:List av)(o:List It)(m:Nat)(i k:Int):S:=⟨77,[(1,cX v),(5,.sl 0 0 n),(6,.sl 1 0 m),(7,iD i),(9,iD k)],L1 0 z l++Od 1 o⟩
def qd9:S->K (PX×S):=λs ae=> ∃z l n v o a i k,s=imI z l n v (o++[a]) (o.length+1) i k/\(k=(o.length:Int)/\o.length<=1000000)/\ae (.exit 2,imH z l n v (cJ G6 o a) (o.length+1) i)
def Z7R(o:List It):En:=En.mk 0 none (Obj.arr (72:TypeId) false (List.map fF o))
def qU(i:Int):Nat×P:=(7,P.d (Zt i))
def J6(m:Nat):Nat×P:=(6,P.sl 1 0 m)
def Z7S(ae:PX×S->Prop)(v:List av)(n:Nat)(m:Nat)(i:Int)(z:Bool)(l:List Pl)(o:List It):Prop:=ae (PX.exit 2,S.mk 77 [nN v,ZC n,J6 m,qU i] [HZ z l,(1,Z7R o)])
def Ts(o:List It)(k:Int):D:=D.nth (List.map fF o) (Zg k)
def Z7L(o:List It)(k:Int):List D:=[D.int .i64 (D.aj (D.ar (Ts o k) 0)),D.int .i64 (D.aj (D.ar (Ts o k) 1)),D.int .i64 (D.aj (D.ar (Ts o k) 2)),D.str (D.eO (D.ar (Ts o k) 3)),D.bool (D.ff (D.ar (Ts o k) 4)),D.bool (D.ff (D.ar (Ts o k) 5))]
def Tt(k:Int):List (Nat×P):=[(9,Zs k)]
def Wc(o:List It)(k:Int):D:=D.nth (List.map fF o) (Zc k)
def Z7M(o:List It)(k:Int):List D:=List.set (List.map fF o) (Zg k) (D.aV (D.agg (Z7L o k)) [D.int .i64 (D.aj (D.ar (Wc o k) 0)),D.int .i64 (D.aj (D.ar (Wc o k) 1)),D.int .i64 (D.aj (D.ar (Wc o k) 2)),D.str (D.eO (D.ar (Wc o k) 3)),D.bool (D.ff (D.ar (Wc o k) 4)),D.bool (D.ff (D.ar (Wc o k) 5))])
def Z7N(o:List It)(k:Int):D:=D.nth (Z7M o k) (Zc k)
def uJ(k:Int)(m:Nat):Bool:=decide ((0:Int)<=k-(1:Int)/\k-(1:Int)<(↑m:Int))
def Z7H(k:Int)(o:List It):Bool:=decide (Zg k<List.length (List.map fF o))
theorem qhf(z:Bool)(l:List Pl)(n:Nat)(v:List av)(o:List It)(m:Nat)(i k:Int)(ae:PX×S->Prop):(bif Zr k then bif lY k m then bif Z7H k o then bif cx PR (72:TypeId) (Ts o k) then bif Zb k then bif uJ k m then bif decide (Zc k<List.length (List.map fF o)) then bif cx PR (72:TypeId) (Wc o k) then bif Op.bytesLess (D.eO (D.ar (Ts o k) 3)) (D.eO (D.ar (Wc o k) 3)) then bif Zb k then bif Zb k then bif uJ k m then bif decide (Zc k<List.length (List.map fF o)) then bif cx PR (72:TypeId) (Wc o k) then bif lY k m then bif Z7H k o then bif cx PR (72:TypeId) (Ts o k) then bif lY k m then bif Z7H k o then bif cx PR (72:TypeId) (Ts o k) then bif uJ k m then bif decide (Zc k<List.length (Z7M o k)) then bif cx PR (72:TypeId) (Z7N o k) then bif Zb k then ae (PX.normal,S.mk 77 (nN v::ZC n::J6 m::qU i::Tt k) [HZ z l,(1,En.mk 0 none (Obj.arr (72:TypeId) false (List.set (Z7M o k) (Zc k) (D.aV (D.agg [D.int .i64 (D.aj (D.ar (Z7N o k) 0)),D.int .i64 (D.aj (D.ar (Z7N o k) 1)),D.int .i64 (D.aj (D.ar (Z7N o k) 2)),D.str (D.eO (D.ar (Z7N o k) 3)),D.bool (D.ff (D.ar (Z7N o k) 4)),D.bool (D.ff (D.ar (Z7N o k) 5))]) (Z7L o k)))))]) else False else False else False else False else False else False else False else False else False else False else False else False else False else False else False else Z7S ae v n m i z l o else False else False else False else False else False else False else False else Z7S ae v n m i z l o)=(aD [] [] 56 9 (imI z l n v o m i k)) ae:=by kernel_rfl
def H2(k:Int):Nat×P:=(9,P.d (Zt k))
def Z7T(l:List Pl)(i:Int)(T:List Pl)(V:List av)(p:Pl)(au:List av)(x:av):List D:=[D.agg [Ob l i,Oa l i,N9 l i,D.str (LW T V (Prod.fst p)),D.bool (D.ff (D.ar (oY l i) 7)),D.bool !decide (x∈au)]]
theorem qhg(z:Bool)(l:List Pl)(n:Nat)(v:List av)(o:List It)(m:Nat)(i:Int)(ae:PX×S->Prop):(bif S6 i n then bif lY i n then bif HV i l then bif ri l i then∃(T:List Pl) (V:List av) (p:Pl),[P.d (D.sl 8 (List.take n (iG l))),P.d (D.agg (YQ l i))]=P.d (D.sl 8 (List.map bP (bg T V)))::Z7t p/\Zx/\(km T<=1000/\Rt T/\p∈bg T V)/\ ∃(au:List av) (x:av),[ma v,J4 l i]=ma au::jf x/\Zx/\qp au/\bif Nat.ble m (List.length (List.map fF o))&&aO (m+List.length (Z7T l i T V p au x)) 48 then bif decide (Z9<=(↑(m+List.length (Z7T l i T V p au x)):Int)-(1:Int)/\(↑(m+List.length (Z7T l i T V p au x)):Int)-(1:Int)<=Za) then∃(z:Bool) (eX:List Pl) (cz:Nat) (cI:List av) (aP:List It) (a:It) (aI:Int) (k:Int),S.mk 77 [nN v,ZC n,(6,P.sl 1 0 (m+List.length (Z7T l i T V p au x))),qU i,(9,P.d (D.int .i64 ((↑(m+List.length (Z7T l i T V p au x)):Int)-(1:Int))))] [Z7A l,(1,En.mk 0 none (Obj.arr (72:TypeId) false (List.take m (List.map fF o)++Z7T l i T V p au x)))]=S.mk 77 [nN cI,ZC cz,(6,P.sl 1 0 (List.length aP+1)),qU aI,H2 k] [HZ z eX,(1,En.mk 0 none (Obj.arr (72:TypeId) false (List.map fF (aP++[a]))))]/\(k=(↑(List.length aP):Int)/\List.length aP<=1000000)/\bif Zj aI then ae (PX.normal,S.mk 77 (nN cI::ZC cz::(6,P.sl 1 0 (List.length aP+1))::ZL aI) [HZ z eX,(1,En.mk 0 none (Obj.arr (72:TypeId) false (List.map fF (cJ G6 aP a))))]) else False else False else False else False else False else False else ae (PX.exit 0,S.mk 77 [(6,ZB m)] [(0,Z7R o)]))=(aD [(90,hPa),(91,S9)] [(9,ah (aL 56 9) qd9)] 56 4 (imH z l n v o m i)) ae:=by kernel_rfl
def qea:S->K (PX×S):=λs ae=> ∃T v,s=imH false (bg T v) (bg T v).length v [] 0 0/\(T.length<=1000/\Rt T/\v.length<=1000000)/\ae (.exit 0,⟨77,[(6,.sl 0 0 (kj T v).length)],Od 0 (kj T v)⟩)
def Wd:En:=En.mk 0 none (Obj.arr (72:TypeId) false [])
def Z7V:List (Nat×P):=(6,uI)::sw
theorem qjw(l:List Pl)(v:List av)(ae:P×List (Nat×En)->Prop):(∃(au:List Pl) (cI:List av),[lZ l,ma v]=[lZ au,ma cI]/\Zx/\(oK au/\qp cI)/\ ∃(T:List Pl) (y9:List av),S.mk 77 (nN v::(5,P.sl 0 0 (List.length (bg (pn au) cI)))::Z7V) [Z7G au cI,(1,Wd)]=S.mk 77 (nN y9::(5,P.sl 0 0 (List.length (bg T y9)))::Z7V) [(0,En.mk 0 none (Obj.arr (104:TypeId) false (List.map bP (bg T y9)))),(1,Wd)]/\(km T<=1000/\Rt T/\qp y9)/\ae (P.sl 0 0 (List.length (kj T y9)),[(0,En.mk 0 none (Obj.arr (72:TypeId) false (List.map fF (kj T y9))))]))=(aJ [(89,J5)] [(4,ah (aL 56 4) qea)] 56 [eM l,cX v] []) ae:=by kernel_rfl
def Ee:bm:=λps R ae=> ∃l v,ps=[eM l,cX v]/\R=[]/\(l.length<=1000/\v.length<=1000000)/\ae (.sl 0 0 (kj (pn l) v).length,Od 0 (kj (pn l) v))
theorem YW{T:List Pl}(hT:Rt T):ez T aB=none:=by
 cases h:ez T aB with
 |none=>rfl
 |some p=>obtain⟨h1,h2⟩:=jG h;have:=hT.2 p h1;simp[zh,h2,cy] at this
theorem J7{T:List Pl}{V:List av}(hT:Rt T){p:Pl}(hp:p∈T):T.any (L2 T V p)=marked T V p.1:=by
 have dP:p.1≠aB:=λe=>by have:=hT.2 p hp;simp[zh,e,cy] at this
 have hw: ∀{x w},Up T x w->within T x p.1=decide (p.1∈w):=λ{x w} h=>Jz h dP (YW hT) _ (by have:=h.len;omega);rw[zaH,zby,sB];constructor
 ·rintro⟨q,hq,h⟩;simp only[L2,zab,zai] at h;obtain⟨⟨h1,h2⟩,h3⟩:=h;obtain⟨w,F9⟩:=zk.1 h2;rw[hw F9] at h3;exact⟨q.1,h1,w,F9,by simpa using h3⟩
 rintro⟨x,hx,w,F9,hm⟩;obtain⟨q,hq⟩:=F9.at;obtain⟨q1,q2⟩:=jG hq;refine⟨q,q1,?_⟩;simp only[L2,zab,zai,q2];exact⟨⟨hx,zk.2 ⟨w,F9⟩⟩,by rw[hw F9];simpa using hm⟩
theorem Oe{α:Type}(f:α->Bool)(l:List α)(d:α){k:Nat}(h:k<l.length):(l.take (k+1)).any f=((l.take k).any f ||f (l.getD k d)):=by rw[zb8,getD_some h d];simp
theorem Ef{α:Type}(f:α->Bool)(l:List α)(d:α){k:Nat}(h:k<l.length):(l.take (k+1)).filter f=(l.take k).filter f++(if f (l.getD k d) then [l.getD k d] else []):=by rw[zb8,getD_some h d,zcp];simp only[Option.toList_some,List.filter_cons,List.filter_nil]
theorem Tv{α β:Type}(f:α->β)(pre oI:List α)(b a:α)(u v:β)(hu:u=f b)(hv:v=f a):(((pre++b::a::oI).map f).set (pre.length+1) u).set pre.length v=(pre++a::b::oI).map f:=by subst hu;subst hv;simp
section
variable{X:XF}
theorem YX:LD X 89 8 (ah (aL 89 8) qd7):=LD.par (H:=[(91,S9),(119,qd0),(86,qdY)]) (hk:=[]) (by kernel_rfl) (by kernel_rfl) (.cons qbG (.cons qhb (.cons qbH .nil))) .nil
 (A:=List Pl×List av×List Pl×Nat×Int×Bool) (B:=Bool×Bool×Int) (λ⟨l,v,o,m,i,_⟩ ⟨z,b,k⟩=>skI z l l.length v o m i b k)
 (λ⟨l,v,_,_,i,b0⟩ ⟨_,b,k⟩=>l.length<=1000000/\v.length<=1000000/\0<=i/\i<l.length/\0<=k/\k<=l.length/\b=(b0 || (l.take k.toNat).any (L2 l v (l.getD i.toNat tW))))
 (λ⟨l,_⟩ ⟨_,_,k⟩=>(l.length-k).toNat)
 (λ⟨l,v,o,m,i,b0⟩ x=> ∃z' b',b'=(b0 ||l.any (L2 l v (l.getD i.toNat tW)))/\x=(.exit 2,⟨62,[(0,.sl 0 0 l.length),(1,cX v),(5,.sl 1 0 m),(6,iD i),(7,.d (.bool b'))],L1 0 z' l++L1 1 false o⟩))
 (by
  rintro⟨l,v,o,m,i,b0⟩ ⟨z,b,k⟩ ⟨hm,hv,oU,hi,h0,hk,hb⟩;dsimp only at*
  (rw[<-qhd];delta iG Z7A fI qT Pp Hc HZ Zn oL ZO Zt ZK H0 gD ma nN ZB rV Za Z9 Zj N7 EL gU gT im gJ gK ve km uj oK lZ iq qp Zx jf Zg oY N9 Oa Ob J4 ri s5 HV lY S6)
  refine bk (λh=> ?_) λh=> ?_
  ·have dO:k.toNat<l.length:=by omega
   have aY:i.toNat<l.length:=by omega
   have J8:=Oe (L2 l v (l.getD i.toNat tW)) l tW dO;rw[jd dO,jd aY];generalize l.getD k.toNat tW=q at J8;generalize l.getD i.toNat tW=p at J8 hb;have fit:decide ((-9223372036854775808:Int)<=k+(1:Int)/\k+(1:Int)<=(9223372036854775807:Int))=true:=p9 (by omega) (by omega);have go: ∀z' b',b'=(b ||L2 l v p q)-> ∃m',m'<((l.length:Int)-k).toNat/\ ∃b2:Bool×Bool×Int,(skI z' l l.length v o m i b' (k+1):S)=skI b2.1 l l.length v o m i b2.2.1 b2.2.2/\
     (l.length<=1000000/\v.length<=1000000/\0<=i/\i<l.length/\0<=b2.2.2/\b2.2.2<=l.length/\b2.2.1=(b0 || (l.take b2.2.2.toNat).any (L2 l v p)))/\m'=((l.length:Int)-b2.2.2).toNat:=λz' b' du=>⟨((l.length:Int)-(k+1)).toNat,by omega,(z',b',k+1),rfl,⟨hm,hv,oU,hi,by simp only;omega,by simp only;omega,by simp only;rw[show(k+1).toNat=k.toNat+1 by omega,J8,du,hb,zde]⟩,rfl⟩
   have dl:decide (k.toNat<(l.map bP).length)=true:=lG (by rw[zaa];exact dO);have di:decide (i.toNat<(l.map bP).length)=true:=lG (by rw[zaa];exact aY);refine bu ⟨h0,h⟩ (aq dl (aq (ig q) ⟨v,q.1,rfl,rfl,hv,az (λh1=>bu ⟨h0,h⟩ (aq dl (aq (ig q) ⟨l,q.1,by rw[xE];rfl,rfl,hm,λb1 jX=>az (λh2=>bu ⟨h0,h⟩ (aq dl (aq (ig q) (bu ⟨oU,hi⟩ (aq di (aq (ig p) ⟨true,l,q.1,p.1,rfl,rfl,hm,λb2 cm=>az (λh3=>aq fit (go _ _ ?_)) λh3=>aq fit (go _ _ ?_)⟩)))))) λh2=>aq fit (go _ _ ?_)⟩))) λh1=>aq fit (go _ _ ?_)⟩))
   ·unfold L2;rw[h1,<-jX,h2,<-cm,h3];simp
   ·unfold L2;rw[h1,<-jX,h2,<-cm,h3];simp
   ·unfold L2;rw[h1,<-jX,h2];simp
   unfold L2;rw[h1];simp
  refine⟨z,b,?_,rfl⟩;rw[hb,zah (by omega)])
 (by rintro s ae ⟨z,l,v,o,m,i,b,rfl,⟨hm,hv,oU,hi⟩,hp⟩;refine⟨(l,v,o,m,i,b),(z,b,0),rfl,⟨hm,hv,oU,hi,by simp,by simp,by simp⟩,?_⟩;rintro x ⟨z',b',h1,rfl⟩;exact hp z' b' h1)
theorem YY:LD X 89 4 (ah (aL 89 4) qd8):=LD.par (H:=[]) (hk:=[(8,ah (aL 89 8) qd7)]) (by kernel_rfl) (by kernel_rfl) .nil (.cons YX .nil)
 (A:=List Pl×List av) (B:=Bool×Int) (λa b=>skH b.1 a.1 a.1.length a.2 ((a.1.take b.2.toNat).filter λp=>marked a.1 a.2 p.1) ((a.1.take b.2.toNat).filter λp=>marked a.1 a.2 p.1).length b.2)
 (λa b=>a.1.length<=1000000/\a.2.length<=1000000/\Rt a.1/\0<=b.2/\b.2<=a.1.length)
 (λa b=>(a.1.length-b.2).toNat)
 (λa x=>x=(.exit 0,⟨62,[(5,.sl 0 0 (bg a.1 a.2).length)],L1 0 false (bg a.1 a.2)⟩))
 (by
  rintro⟨l,v⟩ ⟨z,i⟩ ⟨hm,hv,hT,h0,hi⟩;dsimp only at*
  (rw[<-qhe];delta iG Pp HX ZB ZC Zg oY N9 Oa Ob YQ Z79 Zn ZA Za Z9 Zj Z78 s5 ri HV km iq qp oK fI qT uj Hc HZ Z7 Ec Z3 Zt ZK H0 gD ma nN rV S6)
  refine bk (λh=> ?_) λh=> ?_
  ·have aY:i.toNat<l.length:=by omega
   have jQ:=Ef (λp:Pl=>marked l v p.1) l tW aY;have GX:l.getD i.toNat tW∈l:=zaC (getD_some aY tW);have wI:((l.take i.toNat).filter λp=>marked l v p.1).length<=l.length:=zaG (zaU _ _) (by rw[zay];omega);refine⟨z,l,v,_,_,i,false,rfl,⟨hm,hv,h0,h⟩,λz' b' du=> ?_⟩;rw[J7 hT GX] at du;rw[jd aY];generalize l.getD i.toNat tW=p at jQ du;generalize hoo:((l.take i.toNat).filter λp=>marked l v p.1)=o at jQ wI;have fit:decide ((-9223372036854775808:Int)<=i+(1:Int)/\i+(1:Int)<=(9223372036854775807:Int))=true:=p9 (by omega) (by omega);have go: ∀o',((l.take (i+1).toNat).filter λp=>marked l v p.1)=o'-> ∃m',m'<((l.length:Int)-i).toNat/\ ∃b2:Bool×Int,(skH z' l l.length v o' o'.length (i+1):S)=skH b2.1 l l.length v ((l.take b2.2.toNat).filter λp=>marked l v p.1) ((l.take b2.2.toNat).filter λp=>marked l v p.1).length b2.2/\
     (l.length<=1000000/\v.length<=1000000/\Rt l/\0<=b2.2/\b2.2<=l.length)/\m'=((l.length:Int)-b2.2).toNat:=λo' gg=>⟨((l.length:Int)-(i+1)).toNat,by omega,(z',i+1),by simp only;rw[gg],⟨hm,hv,hT,by simp only;omega,by simp only;omega⟩,rfl⟩
   have hs:(i+1).toNat=i.toNat+1:=by omega
   refine az (λhb=>bu ⟨h0,h⟩ (aq (lG (by rw[zaa];exact aY)) (aq (ig p) (aq ?_ (aq fit ?_))))) λhb=>aq fit ?_
   ·simp[aO];omega
   ·have:=go (o++[p]) (by rw[hs,jQ,zao (by rw[<-hb,du];rfl)]);rw[xE];have e1:(o++[p]).length=o.length+1:=by simp
    have e2:(o++[p]).map bP=o.map bP++[bP p]:=by simp
    simp only[skH,L1,e1,e2] at this;exact this
   exact go o (by
    have:marked l v p.1=false:=by rw[<-hb,du];rfl
    rw[hs,jQ,this];simp)
  rw[zah (by omega)];rfl)
 (by rintro s ae ⟨l,v,rfl,⟨hm,hv⟩,hp⟩;have htl:=Ea l;refine⟨(pn l,v),(false,0),rfl,⟨by simp only;omega,hv,SZ l,by simp,by simp⟩,?_⟩;rintro x rfl;exact hp)
theorem Tw:FD X 89 J5:=FD.mk (H:=[(118,hRi)]) (hk:=[(4,ah (aL 89 4) qd8)]) (by kernel_rfl) (.cons qjt .nil) (.cons YY .nil) (by
 intro ps R ae hh;obtain⟨l,v,rfl,rfl,⟨hm,hv⟩,hp⟩:=hh
 (rw[<-qjv];delta Z7G iq qp An Z7f Z7 Ed uI Z7E gD ma nN Z7F km oK Zx iG lZ)
 exact⟨l,rfl,rfl,hm,l,v,rfl,⟨hm,hv⟩,hp⟩)
theorem L3{l:List It}{i:Nat}(h:i<l.length)(x:It)(hx:l[i]?=some x):D.nth (l.map fF) i=fF x:=by rw[qdV h it0];congr 1;rw[zac,hx];rfl
theorem YZ:LD X 56 9 (ah (aL 56 9) qd9):=LD.par (H:=[]) (hk:=[]) (by kernel_rfl) (by kernel_rfl) .nil .nil
 (A:=Bool×List Pl×Nat×List av×List It×It×Int) (B:=List It×List It) (λ⟨z,l,n,v,o,a,i⟩ ⟨pre,oI⟩=>imI z l n v (pre++a::oI) (o.length+1) i (pre.length:Int))
 (λ⟨_,_,_,_,o,a,_⟩ ⟨pre,oI⟩=>o.length<=1000000/\pre.length+oI.length=o.length/\(oC G6 a pre.reverse).reverse++oI=cJ G6 o a)
 (λ_ ⟨pre,_⟩=>pre.length)
 (λ⟨z,l,n,v,o,a,i⟩ x=>x=(.exit 2,imH z l n v (cJ G6 o a) (o.length+1) i))
 (by
  rintro⟨z,l,n,v,o,a,i⟩ ⟨pre,oI⟩ ⟨hm,hl,hr⟩;dsimp only at*
  (rw[<-qhf];delta Z7R iG HZ Zt qU J6 ZB ZC gD ma nN Z7S Zg Ts Z7L Zs Tt Zc Wc Z7M Z7N uJ Za Z9 Zb Z7H lY Zr)
  rcases zcI pre with rfl | ⟨pre,b,rfl⟩
  ·refine lD (lH (by simp)) ?_;show _=_;rw[<-hr];rfl
  simp only[List.concat_eq_append] at*
  rw[zan,List.length_singleton] at hl;have fh:(((pre++[b]).length:Int)).toNat=pre.length+1:=by simp
  have sW:(((pre++[b]).length:Int)-1).toNat=pre.length:=by simp
  rw[fh,sW];have hlen:(((pre++[b])++a::oI).map fF).length=pre.length+oI.length+2:=by simp;omega
  have n1:D.nth (((pre++[b])++a::oI).map fF) (pre.length+1)=fF a:=L3 (by simp) _ (by simp);have n2:D.nth (((pre++[b])++a::oI).map fF) pre.length=fF b:=L3 (by simp) _ (by simp);have n3: ∀u,D.nth ((((pre++[b])++a::oI).map fF).set (pre.length+1) u) pre.length=fF b:=λu=>by rw[<-n2];simp only[D.nth,zac];rw[zaR (by omega)]
  have hc:(((pre++[b]).length:Nat):Int)=(pre.length:Int)+1:=by simp
  rw[hc];rw[n1,n2];simp only[zbb,hlen,n3];have dl: ∀x,x<pre.length+oI.length+2->decide (x<pre.length+oI.length+2)=true:=λx h=>lG h;refine fT (lG (by omega)) ?_
  repeat (first
   |refine aq (lG (show _/\_ from⟨by omega,by omega⟩)) ?_
   |refine aq (lG (show _<_ by omega)) ?_
   |refine aq (qg3 _) ?_)
  refine az (λbG=> ?_) λbG=> ?_
  ·repeat (first
    |refine aq (lG (show _/\_ from⟨by omega,by omega⟩)) ?_
    |refine aq (lG (show _<_ by omega)) ?_
    |refine aq (qg3 _) ?_)
   have Qn:G6 a b=true:=bG;refine⟨pre.length,by simp,(pre,b::oI),?_,⟨hm,by simp only[zap];omega,?_⟩,rfl⟩
   ·have hsw:=Tv fF pre oI b a (fF b) (fF a) rfl rfl;show _=imI z l n v (pre++a::b::oI) (o.length+1) i (pre.length:Int);have hk3:(pre.length:Int)+1-1=(pre.length:Int):=by omega
    rw[hk3];simp only[imI,Od];rw[<-hsw];simp only[za0,zcc];rfl
   simp only;rw[<-hr,zcO,List.reverse_singleton,zcc,oC,zao Qn];simp
  have Qn: ¬G6 a b=true:=by rw[show G6 a b=false from bG];simp
  show _=_;rw[zcO,List.reverse_singleton,zcc,oC,zal Qn] at hr;rw[<-hr];simp)
 (by rintro s ae ⟨z,l,n,v,o,a,i,k,rfl,⟨hk,hm⟩,hp⟩;subst hk;refine⟨(z,l,n,v,o,a,i),(o,[]),rfl,⟨hm,by simp,by simp[cJ]⟩,?_⟩;rintro x rfl;exact hp)
theorem Y0:LD X 56 4 (ah (aL 56 4) qea):=LD.par (H:=[(90,hPa),(91,S9)]) (hk:=[(9,ah (aL 56 9) qd9)]) (by kernel_rfl) (by kernel_rfl) (.cons qju (.cons qbG .nil)) (.cons YZ .nil)
 (A:=List Pl×List av) (B:=Bool×Int) (λ⟨T,v⟩ ⟨z,i⟩=>imH z (bg T v) (bg T v).length v (cp G6 (((bg T v).take i.toNat).map (lQ T v))) (cp G6 (((bg T v).take i.toNat).map (lQ T v))).length i)
 (λ⟨T,v⟩ ⟨_,i⟩=>T.length<=1000/\Rt T/\v.length<=1000000/\0<=i/\i<=(bg T v).length)
 (λ⟨T,v⟩ ⟨_,i⟩=>((bg T v).length-i).toNat)
 (λ⟨T,v⟩ x=>x=(.exit 0,⟨77,[(6,.sl 0 0 (kj T v).length)],Od 0 (kj T v)⟩))
 (by
  rintro⟨T,v⟩ ⟨z,i⟩ ⟨hm,hT,hv,h0,hi⟩;dsimp only at*
  have hsL:(bg T v).length<=T.length:=zaU _ _
  (rw[<-qhg];delta Z7R ZB Zn ZL Za Z9 Zj iG HZ Zt H2 Z7A qU ZC gD ma nN Zg oY N9 Oa Ob Z7T iq qp gU gT im gJ gK ve jf J4 km Zx Pr Tc Te Tf YS YT YU Z7t YQ ri s5 HV lY S6)
  refine bk (λh=> ?_) λh=> ?_
  ·have aY:i.toNat<(bg T v).length:=by omega
   have GX:(bg T v).getD i.toNat tW∈bg T v:=zaC (getD_some aY tW);have mb:((bg T v).take (i+1).toNat).map (lQ T v)=((bg T v).take i.toNat).map (lQ T v)++[lQ T v ((bg T v).getD i.toNat tW)]:=by rw[show(i+1).toNat=i.toNat+1 by omega,zb8,getD_some aY tW];simp
   have lX:(cp G6 (((bg T v).take i.toNat).map (lQ T v))).length=i.toNat:=by rw[(bZ _).length_eq,zaa,zay];omega
   have Ph:cp G6 (((bg T v).take (i+1).toNat).map (lQ T v))=cJ G6 (cp G6 (((bg T v).take i.toNat).map (lQ T v))) (lQ T v ((bg T v).getD i.toNat tW)):=by rw[mb];unfold cp;rw[za3];rfl
   rw[jd aY];generalize (bg T v).getD i.toNat tW=p at GX Ph;generalize cp G6 (((bg T v).take i.toNat).map (lQ T v))=o at lX Ph;have qhh:(cp G6 (((bg T v).take (i+1).toNat).map (lQ T v))).length=o.length+1:=by rw[Ph,(gQ _ _).length_eq];simp
   have fit:decide ((-9223372036854775808:Int)<=i+(1:Int)/\i+(1:Int)<=(9223372036854775807:Int))=true:=p9 (by omega) (by omega);refine bu ⟨h0,h⟩ (aq (lG (by rw[zaa];exact aY)) (aq (ig p) ⟨T,v,p,by rw[xE];rfl,rfl,⟨hm,hT,GX⟩,v,p.1,rfl,rfl,hv,aq ?_ (aq ?_ ⟨true,bg T v,(bg T v).length,v,o,lQ T v p,i,((o.length+1:Nat):Int)-1,?_,⟨by omega,by omega⟩,aq fit ⟨((bg T v).length-(i+1)).toNat,by omega,(true,i+1),?_,⟨hm,hT,hv,by simp only;omega,by simp only;omega⟩,rfl⟩⟩)⟩))
   ·simp[aO];omega
   ·refine lG (show(-9223372036854775808:Int)<=((o.length+1:Nat):Int)-1/\((o.length+1:Nat):Int)-1<=9223372036854775807 from⟨by omega,by omega⟩)
   ·have e2:(o++[lQ T v p]).map fF=(o.map fF).take o.length++[fF (lQ T v p)]:=by rw[zah (by simp)];simp
    rw[e2];rfl
   simp only;rw[qhh,Ph];rfl
  have qhi:(bg T v).take i.toNat=bg T v:=zah (by omega);rw[qhi];rfl)
 (by rintro s ae ⟨T,v,rfl,⟨hm,hT,hv⟩,hp⟩;refine⟨(T,v),(false,0),rfl,⟨hm,hT,hv,by simp,by simp⟩,?_⟩;rintro x rfl;exact hp)
theorem Tx:FD X 56 Ee:=FD.mk (H:=[(89,J5)]) (hk:=[(4,ah (aL 56 4) qea)]) (by kernel_rfl) (.cons Tw .nil) (.cons Y0 .nil) (by
 intro ps R ae hh;obtain⟨l,v,rfl,rfl,⟨hm,hv⟩,hp⟩:=hh
 (rw[<-qjw];delta km Wd Z7G Z7 sw uI Z7V gD ma nN iq qp oK Zx iG lZ)
 have htl:=Ea l;exact⟨l,v,rfl,rfl,⟨by omega,hv⟩,pn l,v,rfl,⟨by omega,SZ l,hv⟩,hp⟩)
end
abbrev Td:=av×Pl
def ltT(a b:Td):Bool:=mO a.1 b.1
def ltN(a b:Pl):Bool:=mO a.1 b.1
def Wf(o:List Td)(t:Td):List Td:=if(o.any λx=>x.1==t.1)=true then o else cJ ltT o t
def J9(a:List av)(p:List Pl):List Td:=(a.zip p).foldl Wf []
def Ty(o:List Pl)(t:Td):List Pl:=
 if t.2.1=aB\/within o t.2.2.1 t.2.1=true then o
 else if 0<=eQ o t.2.1 then o.set (eQ o t.2.1).toNat (t.2.1,t.2.2.1,t.2.2.2.1,(o.getD (eQ o t.2.1).toNat tW).2.2.2) else cJ ltN o t.2
def Og(l:List Td):List Pl:=l.foldl Ty []
def Ba(x:Pl)(o:aX):List Pl:=if o.kind=0/\o.node=x.1 then [(x.1,x.2.1,x.2.2.1,o.dir)] else []
def mdG(x:Pl)(g:ak):List Pl:=g.ops.flatMap (Ba x)
def EN(l:List ak)(x:Pl):List Pl:=l.flatMap (mdG x)
def H3(l:List ak)(p:List Pl):List Pl:=p.flatMap (EN l)
def Tz(gone:List bj)(o:List av)(d:bj):List av:=if d∈gone\/d.1∈o then o else cJ mO o d.1
def Oh(hv gone:List bj):List av:=hv.foldl (Tz gone) []
theorem Y1(o:List Td)(t:Td):(Wf o t).length<=o.length+1:=by
 unfold Wf;split
 ·omega
 rw[(gQ _ _).length_eq];simp
theorem L4: ∀(l o:List Td),(l.foldl Wf o).length<=o.length+l.length
 | [],_=>by simp
 |x::r,o=>by have:=L4 r (Wf o x);have:=Y1 o x;simp only[za8,zap];omega
theorem xF(a:List av)(p:List Pl):(J9 a p).length<=a.length:=by have:=L4 (a.zip p) [];simp only[List.length_zip,zat] at this;unfold J9;omega
theorem Y2(o:List Pl)(t:Td):(Ty o t).length<=o.length+1:=by
 unfold Ty;split
 ·omega
 split
 ·simp
 rw[(gQ _ _).length_eq];simp
theorem L5: ∀(l:List Td) (o:List Pl),(l.foldl Ty o).length<=o.length+l.length
 | [],_=>by simp
 |x::r,o=>by have:=L5 r (Ty o x);have:=Y2 o x;simp only[za8,zap];omega
theorem Eg(l:List Td):(Og l).length<=l.length:=by simpa [Og] using L5 l []
theorem Y3(g:List bj)(o:List av)(d:bj):(Tz g o d).length<=o.length+1:=by
 unfold Tz;split
 ·omega
 rw[(gQ _ _).length_eq];simp
theorem He(g:List bj): ∀(l:List bj) (o:List av),(l.foldl (Tz g) o).length<=o.length+l.length
 | [],_=>by simp
 |x::r,o=>by have:=He g r (Tz g o x);have:=Y3 g o x;simp only[za8,zap];omega
theorem L6(hv g:List bj):(Oh hv g).length<=hv.length:=by simpa [Oh] using He g hv []
theorem Y4{s:aw}{k n:Int}{o:aX}(h:kJ s k o=some n):0<=n:=by
 unfold kJ at h;split at h
 ·cases h
 split at h
 ·split at h<;>cases h;decide
 split at h
 ·split at h<;>cases h;decide
 split at h
 ·split at h<;>cases h;decide
 split at h
 ·split at h
  next hh=>cases h;have:=hh.2.2.2;unfold nB at this;rw[zab,zai] at this;omega
  cases h
 split at h
 ·split at h<;>cases h;decide
 cases h
theorem Hf{s:aw}{k n:Int}{o:aX}(h:kJ s k o=some n)(h0:o.kind=0):o.node=(s.1,s.2,k)/\n=1:=by
 unfold kJ at h;rw[zao h0] at h;split at h
 ·cases h
 split at h
 next hh=>cases h;exact⟨hh.1,rfl⟩
 cases h
theorem L7(x:Pl)(o:aX):(Ba x o).length<=1:=by unfold Ba;split<;>simp
theorem L8{s:aw}(x:Pl): ∀(l:List aX) (k:Int),je s k l=true->(l.flatMap (Ba x)).length<=1/\(l.flatMap (Ba x)≠[]-> ∃j,k<=j/\x.1=(s.1,s.2,j))
 | [],_,_=>⟨by simp,λh=>absurd rfl h⟩
 |o::r,k,h=>by
  unfold je at h;split at h
  next n hn=>
   obtain⟨h1,h2⟩:=L8 x r _ h;have h3:=Y4 hn;rw[zct];by_cases ho:o.kind=0/\o.node=x.1
   ·obtain⟨h4,h5⟩:=Hf hn ho.1;have hx:x.1=(s.1,s.2,k):=by rw[<-ho.2,h4]
    have hr:r.flatMap (Ba x)=[]:=zaM λhr=>by
     obtain⟨j,h6,h7⟩:=h2 hr;rw[hx] at h7;injection h7 with _ h7
     injection h7 with _ h7
     omega
    rw[hr,zbe];exact⟨L7 x o,λ_=>⟨k,zbz _,hx⟩⟩
   have:Ba x o=[]:=by unfold Ba;rw[zal ho]
   rw[this,zbi];exact⟨h1,λhr=>by obtain⟨j,h6,h7⟩:=h2 hr;exact⟨j,by omega,h7⟩⟩
  cases h
theorem L9{l:List ak}(x:Pl):(∀g∈l,cE g=true)->(l.map (·.s)).Nodup->(EN l x).length<=1/\(EN l x≠[]-> ∃g∈l,g.s=GB x.1):=by
 induction l with
 |nil=>exact λ_ _=>⟨by simp[EN],λh=>absurd rfl h⟩
 |cons g r ih=>
  intro hc hn;rw[zbm,za7] at hn;obtain⟨h1,h2⟩:=ih (λy hy=>hc y (.tail _ hy)) hn.2;obtain⟨h3,h4⟩:=L8 x g.ops 0 (D9 (hc g (.head _)));have e:EN (g::r) x=g.ops.flatMap (Ba x)++EN r x:=rfl;rw[e];by_cases hg:g.ops.flatMap (Ba x)=[]
  ·rw[hg,zbi];exact⟨h1,λh=>by obtain⟨y,hy,e⟩:=h2 h;exact⟨y,.tail _ hy,e⟩⟩
  obtain⟨j,_,hx⟩:=h4 hg;have hs:g.s=GB x.1:=by rw[hx]
  have hr:EN r x=[]:=zaM λhr=>by obtain⟨y,hy,e⟩:=h2 hr;exact hn.1 (zaA.2 ⟨y,hy,by rw[e,hs]⟩)
  rw[hr,zbe];exact⟨h3,λ_=>⟨g,.head _,hs⟩⟩
theorem Eh{l:List ak}(hc: ∀g∈l,cE g=true)(hn:(l.map (·.s)).Nodup): ∀p:List Pl,(H3 l p).length<=p.length
 | []=>by simp[H3]
 |x::r=>by have h1:=Eh hc hn r;have h2:=(L9 x hc hn).1;have e:H3 l (x::r)=EN l x++H3 l r:=rfl;rw[e,zan,zap];omega
def jM(d:bj):D:= .agg [iE d.1.1,iE d.1.2.1,iE d.1.2.2,iE d.2.1,iE d.2.2]
abbrev ji(l:List bj):P:= .d (.sl 5 (l.map jM))
abbrev qjx(x:bj):Obj:= .box 106 [iD x.1.1,iD x.1.2.1,iD x.1.2.2,iD x.2.1,iD x.2.2]
abbrev qhj(z:Bool)(l:List bj):Obj:= .arr 106 z (l.map jM)
abbrev iH(z:Bool)(l:List av):Obj:= .arr 50 z (l.map bH)
abbrev qq(z:Bool)(l:List Pl):Obj:= .arr 104 z (l.map bP)
abbrev Y5(l:List bj)(x:bj)(i:Int):S:=⟨18,[(0,ji l),(3,.ref 0 0 0),(5,iD i)],[(0,⟨0,none,qjx x⟩)]⟩
def Z83(x:bj):List (Nat×En):=[(0,En.mk 0 none (Obj.box (106:TypeId) [P.d (D.int .i64 (Prod.fst (Prod.fst x))),P.d (D.int .i64 (Prod.fst (Prod.snd (Prod.fst x)))),P.d (D.int .i64 (Prod.snd (Prod.snd (Prod.fst x)))),P.d (D.int .i64 (Prod.fst (Prod.snd x))),P.d (D.int .i64 (Prod.snd (Prod.snd x)))]))]
def Bb(l:List bj):P:=P.d (D.sl 5 (List.map jM l))
def s7(l:List bj):Nat×P:=(0,Bb l)
def zC(l:List bj)(i:Int):D:=D.nth (List.map jM l) (Zg i)
noncomputable def Oi(l:List bj)(i:Int):Bool:=cx PR (106:TypeId) (zC l i)
def Oj(i:Int)(l:List bj):Bool:=decide ((0:Int)<=i/\i<(↑(List.length (List.map jM l)):Int))
def Y6(i:Int)(l:List bj):Bool:=decide (i<(↑(List.length (List.map jM l)):Int))
theorem qbI(l:List bj)(x:bj)(i:Int)(ae:PX×S->Prop):(bif Y6 i l then bif Oj i l then bif Oi l i then bif D.aj (D.ar (zC l i) 0)==Prod.fst (Prod.fst x)&&(D.aj (D.ar (zC l i) 1)==Prod.fst (Prod.snd (Prod.fst x))&&true)&&(D.aj (D.ar (zC l i) 2)==Prod.snd (Prod.snd (Prod.fst x))&&true)&&(D.aj (D.ar (zC l i) 3)==Prod.fst (Prod.snd x)&&(D.aj (D.ar (zC l i) 4)==Prod.snd (Prod.snd x)&&true)&&true) then ae (PX.ret,S.mk 18 G8 []) else bif Zj i then ae (PX.normal,S.mk 18 (s7 l::cN::Zo i) (Z83 x)) else False else False else False else ae (PX.exit 0,S.mk 18 [] []))=(aD [] [] 92 2 (Y5 l x i)) ae:=by kernel_rfl
def qeb:S->K (PX×S):=λs ae=> ∃l x,s=Y5 l x 0/\l.length<=1000000/\(x∈l->ae (.ret,⟨18,[(4,.d (.bool true))],[]⟩))/\(x∉l->ae (.exit 0,⟨18,[],[]⟩))
def Ci(au:List bj):Prop:=List.length au<=1000000
theorem qjy(l:List bj)(x:bj)(ae:P×List (Nat×En)->Prop):(∃(au:List bj) (aK:bj),S.mk 18 (s7 l::cN::ZN) (Z83 x)=S.mk 18 (s7 au::cN::ZN) (Z83 aK)/\Ci au/\(aK∈au->ZP ae)/\(¬aK∈au->Z4 ae))=(aJ [] [(2,ah (aL 92 2) qeb)] 92 [ji l,.d (jM x)] []) ae:=by kernel_rfl
def TA:bm:=λps R ae=> ∃l x,ps=[ji l,.d (jM x)]/\R=[]/\l.length<=1000000/\ ∀b,b=decide (x∈l)->ae (.d (.bool b),[])
abbrev rj(x:aw):Obj:= .box 30 [iD x.1,iD x.2]
abbrev Y7(l:List aw)(x:aw)(i:Int):S:=⟨18,[(0,gh l),(3,.ref 0 0 0),(5,iD i)],[(0,⟨0,none,rj x⟩)]⟩
def Hg(x:aw):List (Nat×En):=[xA x]
def Ol(l:List aw):Nat×P:=(0,lN l)
def Z85(l:List aw)(i:Int)(x:aw):Bool:=EG l i==Prod.fst x&&(GH l i==Prod.snd x&&true)
theorem qbJ(l:List aw)(x:aw)(i:Int)(ae:PX×S->Prop):(bif Pc i l then bif Lw i l then bif uD l i then bif Z85 l i x then ae (PX.ret,S.mk 18 (Ol l::G8) []) else bif Zj i then ae (PX.normal,S.mk 18 (Ol l::cN::Zo i) (Hg x)) else False else False else False else ae (PX.exit 0,S.mk 18 [Ol l] []))=(aD [] [] 42 2 (Y7 l x i)) ae:=by kernel_rfl
abbrev Y8(l:List aw)(x:aw)(i:Int):S:=⟨18,[(0,.sl 0 0 l.length),(3,.ref 1 0 0),(5,iD i)],[(0,⟨0,some 0,mA false l⟩),(1,⟨0,none,rj x⟩)]⟩
theorem TB(l:List aw)(x:aw)(i:Int)(ae:PX×S->Prop):(bif decide (i<(↑(dR l):Int)) then bif decide ((0:Int)<=i/\i<(↑(dR l):Int)) then bif LS i l then bif uD l i then bif Z85 l i x then ae (PX.ret,S.mk 18 ((0,Al l)::G8) (EK l)) else bif Zj i then ae (PX.normal,S.mk 18 ((0,Al l)::sY::Zo i) [SS l,(1,uG x)]) else False else False else False else False else ae (PX.exit 0,S.mk 18 [(0,Al l)] (EK l)))=(aD [] [] 42 2 (Y8 l x i)) ae:=by kernel_rfl
def qec:S->K (PX×S):=λs ae=> ∃l x,s=Y7 l x 0/\l.length<=1000000/\(x∈l->ae (.ret,⟨18,[(0,gh l),(4,.d (.bool true))],[]⟩))/\(x∉l->ae (.exit 0,⟨18,[(0,gh l)],[]⟩))
def TC:S->K (PX×S):=λs ae=> ∃l x,s=Y8 l x 0/\l.length<=1000000/\(x∈l->ae (.ret,⟨18,[(0,.sl 0 0 l.length),(4,.d (.bool true))],[(0,⟨0,some 0,mA false l⟩)]⟩))/\(x∉l->ae (.exit 0,⟨18,[(0,.sl 0 0 l.length)],[(0,⟨0,some 0,mA false l⟩)]⟩))
theorem qjz(l:List aw)(x:aw)(ae:P×List (Nat×En)->Prop):(∃(au:List aw) (aK:aw),S.mk 18 (Ol l::cN::ZN) (Hg x)=S.mk 18 (Ol au::cN::ZN) (Hg aK)/\mR au/\(aK∈au->ZP ae)/\(¬aK∈au->Z4 ae))=(aJ [] [(2,ah (aL 42 2) qec)] 42 [gh l,.d (bh x)] []) ae:=by kernel_rfl
def Z88(l:List aw)(x:aw):S:=S.mk 18 ((0,Al l)::sY::ZN) [SS l,(1,uG x)]
theorem qhk(l:List aw)(x:aw)(ae:P×List (Nat×En)->Prop):(∃(au:List aw) (aK:aw),Z88 l x=Z88 au aK/\mR au/\(aK∈au->ae (ZO,EK au))/\(¬aK∈au->ae (P.d Z3,EK au)))=(aJ [] [(2,ah (aL 42 2) TC)] 42 [.sl 0 0 l.length,.d (bh x)] [(0,⟨0,some 0,mA false l⟩)]) ae:=by kernel_rfl
def Om:bm:=λps R ae=> ∃l x,ps=[gh l,.d (bh x)]/\R=[]/\l.length<=1000000/\ ∀b,b=decide (x∈l)->ae (.d (.bool b),[])
def Hh:bm:=λps R ae=> ∃l x,ps=[.sl 0 0 l.length,.d (bh x)]/\R=[(0,⟨0,some 0,mA false l⟩)]/\l.length<=1000000/\ ∀b,b=decide (x∈l)->ae (.d (.bool b),[(0,⟨0,some 0,mA false l⟩)])
abbrev Y9(l:List av)(x:av)(i:Int):S:=⟨18,[(0,.sl 0 0 l.length),(3,.ref 1 0 0),(5,iD i)],[(0,⟨0,some 0,iH false l⟩),(1,⟨0,none,.box 50 [iD x.1,iD x.2.1,iD x.2.2]⟩)]⟩
def Z8c(l:List av):Nat×En:=(0,En.mk 0 (some 0) (Obj.arr (50:TypeId) false (gD l)))
def TD(l:List av):List (Nat×En):=[Z8c l]
def rk(l:List av):P:=P.sl 0 0 (iq l)
def TE(i:Int)(l:List av):Bool:=decide (Zg i<qf l)
def xa(l:List av):Int:=(↑(iq l):Int)
theorem TG(l:List av)(x:av)(i:Int)(ae:PX×S->Prop):(bif decide (i<xa l) then bif decide ((0:Int)<=i/\i<xa l) then bif TE i l then bif xv l i then bif Z6I l i x then ae (PX.ret,S.mk 18 ((0,rk l)::G8) (TD l)) else bif Zj i then ae (PX.normal,S.mk 18 ((0,rk l)::sY::Zo i) (Z8c l::S5 x)) else False else False else False else False else ae (PX.exit 0,S.mk 18 [(0,rk l)] (TD l)))=(aD [] [] 91 2 (Y9 l x i)) ae:=by kernel_rfl
def TH:S->K (PX×S):=λs ae=> ∃l x,s=Y9 l x 0/\l.length<=1000000/\(x∈l->ae (.ret,⟨18,[(0,.sl 0 0 l.length),(4,.d (.bool true))],[(0,⟨0,some 0,iH false l⟩)]⟩))/\(x∉l->ae (.exit 0,⟨18,[(0,.sl 0 0 l.length)],[(0,⟨0,some 0,iH false l⟩)]⟩))
def Z8e(l:List av)(x:av):S:=S.mk 18 ((0,rk l)::sY::ZN) (Z8c l::S5 x)
theorem qhl(l:List av)(x:av)(ae:P×List (Nat×En)->Prop):(∃(au:List av) (aK:av),Z8e l x=Z8e au aK/\qp au/\(aK∈au->ae (ZO,TD au))/\(¬aK∈au->ae (P.d Z3,TD au)))=(aJ [] [(2,ah (aL 91 2) TH)] 91 [.sl 0 0 l.length,.d (bH x)] [(0,⟨0,some 0,iH false l⟩)]) ae:=by kernel_rfl
def TI:bm:=λps R ae=> ∃l x,ps=[.sl 0 0 l.length,.d (bH x)]/\R=[(0,⟨0,some 0,iH false l⟩)]/\l.length<=1000000/\ ∀b,b=decide (x∈l)->ae (.d (.bool b),[(0,⟨0,some 0,iH false l⟩)])
abbrev lvI(h g:List bj)(o:List av)(n:Nat)(i k:Int):S:=⟨72,[(0,ji h),(1,ji g),(5,.sl 0 0 n),(6,iD i),(8,iD k)],[(0,⟨0,none,iH false o⟩)]⟩
def H4(o:List av):En:=En.mk 0 none (Obj.arr (50:TypeId) false (gD o))
def vA(o:List av):List (Nat×En):=[(0,H4 o)]
def Cj(i:Int):List (Nat×P):=[ZK i]
def Wg(o:List av)(k:Int):List D:=List.set (gD o) (Zg k) (D.aV (D.agg (NN o k)) (V7 o k))
def Z8j(o:List av)(k:Int):En:=En.mk 0 none (Obj.arr (50:TypeId) false (List.set (Wg o k) (Zc k) (D.aV (D.agg [D.int .i64 (D.aj (D.ar (D.nth (Wg o k) (Zc k)) 0)),D.int .i64 (D.aj (D.ar (D.nth (Wg o k) (Zc k)) 1)),D.int .i64 (D.aj (D.ar (D.nth (Wg o k) (Zc k)) 2))]) (NN o k))))
def Z8i(k:Int):List (Nat×P):=[(8,Zs k)]
def xG(g:List bj):Nat×P:=(1,Bb g)
def Z8f(k:Int)(o:List av):Bool:=decide (Zc k<qf o)
theorem qhm(h g:List bj)(o:List av)(n:Nat)(i k:Int)(ae:PX×S->Prop):(bif Zr k then bif lY k n then bif TE k o then bif xv o k then bif Zb k then bif uJ k n then bif Z8f k o then bif Pd o k then∃(t:Int) (r:Int) (aI:Int) (t':Int) (r':Int) (i':Int),[P.d (D.agg (NN o k)),P.d (D.agg (V7 o k))]=Tm t r aI t' r' i'/\Zx/\bif Tk t r aI t' r' i' then bif Zb k then bif Zb k then bif uJ k n then bif Z8f k o then bif Pd o k then bif lY k n then bif TE k o then bif xv o k then bif lY k n then bif TE k o then bif xv o k then bif uJ k n then bif decide (Zc k<List.length (Wg o k)) then bif cx PR (50:TypeId) (D.nth (Wg o k) (Zc k)) then bif Zb k then ae (PX.normal,S.mk 72 (s7 h::xG g::ZC n::ZK i::Z8i k) [(0,Z8j o k)]) else False else False else False else False else False else False else False else False else False else False else False else False else False else False else False else ae (PX.exit 2,S.mk 72 (s7 h::xG g::ZC n::Cj i) (vA o)) else False else False else False else False else False else False else False else ae (PX.exit 2,S.mk 72 (s7 h::xG g::ZC n::Cj i) (vA o)))=(aD [(88,jc)] [] 57 9 (lvI h g o n i k)) ae:=by kernel_rfl
abbrev lvH(h g:List bj)(o:List av)(i:Int):S:=⟨72,[(0,ji h),(1,ji g),(5,.sl 0 0 o.length),(6,iD i)],[(0,⟨0,none,iH false o⟩)]⟩
def qed:S->K (PX×S):=λst ae=> ∃h g o x n i k,st=lvI h g (o++[x]) n i k/\(k=(o.length:Int)/\n=o.length+1/\o.length<=1000000)/\ ∀o',o'=cJ mO o x->ae (.exit 2,lvH h g o' i)
def Z8u(aP:List av)(x:av):En:=En.mk 0 none (Obj.arr (50:TypeId) false (List.map bH (aP++[x])))
def qt(k:Int):Nat×P:=(8,P.d (Zt k))
def Ka(k:Int):List (Nat×P):=[qt k]
def Z8q(h:List bj)(i:Int):D:=D.agg [D.int .i64 (D.aj (D.ar (zC h i) 0)),D.int .i64 (D.aj (D.ar (zC h i) 1)),D.int .i64 (D.aj (D.ar (zC h i) 2))]
def Z8r(o:List av)(h:List bj)(i:Int):Nat:=iq o+List.length [Z8q h i]
def Z8p(i:Int)(ae:PX×S->Prop)(h:List bj)(g:List bj)(o:List av):Prop:=bif Zj i then ae (PX.normal,S.mk 72 (s7 h::xG g::(5,rk o)::ZA i) (vA o)) else False
def Z8n(h:List bj)(i:Int):List D:=[D.int .i64 (D.aj (D.ar (zC h i) 3)),D.int .i64 (D.aj (D.ar (zC h i) 4))]
def Z8o(g:List bj)(h:List bj)(i:Int)(l:List bj)(x:bj):Prop:=[Bb g,P.d (D.agg (D.int .i64 (D.aj (D.ar (zC h i) 0))::D.int .i64 (D.aj (D.ar (zC h i) 1))::D.int .i64 (D.aj (D.ar (zC h i) 2))::Z8n h i))]=[Bb l,P.d (D.agg [D.int .i64 (Prod.fst (Prod.fst x)),D.int .i64 (Prod.fst (Prod.snd (Prod.fst x))),D.int .i64 (Prod.snd (Prod.snd (Prod.fst x))),D.int .i64 (Prod.fst (Prod.snd x)),D.int .i64 (Prod.snd (Prod.snd x))])]
theorem qbK(h g:List bj)(o:List av)(i:Int)(ae:PX×S->Prop):(bif Y6 i h then bif Oj i h then bif Oi h i then bif Oj i h then bif Oi h i then∃(l:List bj) (x:bj),Z8o g h i l x/\Zx/\Ci l/\ ∀(b:Bool),b=decide (x∈l)->bif b then Z8p i ae h g o else∃(l:List av) (x:av),[rk o,P.d (Z8q h i)]=rk l::jf x/\TD o=TD l/\qp l/\ ∀(b:Bool),b=decide (x∈l)->bif b then bif Zj i then ae (PX.normal,S.mk 72 (s7 h::xG g::(5,rk o)::ZA i) (vA l)) else False else bif Nat.ble (iq o) (qf l)&&aO (Z8r o h i) 24 then bif decide (Z9<=(↑(Z8r o h i):Int)-(1:Int)/\(↑(Z8r o h i):Int)-(1:Int)<=Za) then∃(rl:List bj) (aT:List bj) (aP:List av) (x:av) (n:Nat) (aI:Int) (k:Int),S.mk 72 [s7 h,xG g,(5,P.sl 0 0 (Z8r o h i)),ZK i,(8,P.d (D.int .i64 ((↑(Z8r o h i):Int)-(1:Int))))] [(0,En.mk 0 none (Obj.arr (50:TypeId) false (List.take (iq o) (gD l)++[Z8q h i])))]=S.mk 72 (s7 rl::xG aT::ZC n::ZK aI::Ka k) [(0,Z8u aP x)]/\(k=xa aP/\n=iq aP+1/\qp aP)/\ ∀(o':List av),o'=cJ mO aP x->Z8p aI ae rl aT o' else False else False else False else False else False else False else ae (PX.exit 0,S.mk 72 [(5,rk o)] (vA o)))=(aD [(92,TA),(91,TI)] [(9,ah (aL 57 9) qed)] 57 3 (lvH h g o i)) ae:=by kernel_rfl
def gLv:S->K (PX×S):=λs ae=> ∃h g,s=lvH h g [] 0/\(h.length<=1000000/\g.length<=1000000)/\ ∀o,o=Oh h g->ae (.exit 0,⟨72,[(5,.sl 0 0 o.length)],[(0,⟨0,none,iH false o⟩)]⟩)
def Ma:En:=En.mk 0 none (Obj.arr (50:TypeId) false [])
def TJ:List (Nat×P):=(5,ZQ)::Ed
def Z8x(h:List bj)(g:List bj):S:=S.mk 72 (s7 h::xG g::TJ) [(0,Ma)]
theorem qjA(h g:List bj)(ae:P×List (Nat×En)->Prop):(∃(rl:List bj) (aT:List bj),Z8x h g=Z8x rl aT/\(Ci rl/\Ci aT)/\ ∀(o:List av),o=Oh rl aT->ae (rk o,vA o))=(aJ [] [(3,ah (aL 57 3) gLv)] 57 [ji h,ji g] []) ae:=by kernel_rfl
def TK:bm:=λps R ae=> ∃h g,ps=[ji h,ji g]/\R=[]/\(h.length<=1000000/\g.length<=1000000)/\ ∀o,o=Oh h g->ae (.sl 0 0 o.length,[(0,⟨0,none,iH false o⟩)])
theorem Kb(d:bj):cx PR 106 (jM d)=true:=by kernel_rfl
theorem qjB(y x:bj):(y.1.1==x.1.1&&(y.1.2.1==x.1.2.1&&true)&&(y.1.2.2==x.1.2.2&&true)&&(y.2.1==x.2.1&&(y.2.2==x.2.2&&true)&&true))=(y==x):=by rw[zaH];obtain⟨⟨a,b,c⟩,d,e⟩:=y;obtain⟨⟨a',b',c'⟩,d',e'⟩:=x;simp[and_assoc]
theorem um{α:Type}[BEq α][LawfulBEq α] {l:List α}{x:α}{i:Nat}(hi:i<l.length)(ht:(l[i]==x)=true):x∈l:=by rw[<-eq_of_beq ht];exact zas hi
theorem uo{α:Type}[BEq α][LawfulBEq α] {l:List α}{x:α}(h: ∀j (hj:j<l.length),(l[j]==x)=false):x∉l:=λhx=>by obtain⟨j,hj,rfl⟩:=zaW hx;have:=h j hj;simp at this
section
variable{X:XF}
theorem Zd:LD X 92 2 (ah (aL 92 2) qeb):=LD.find (H:=[]) (hk:=[]) (by kernel_rfl) (by kernel_rfl) .nil .nil
 (A:=List bj×bj) (λa k=>Y5 a.1 a.2 k) (·.1) (λa _ x=>x==a.2) (λa=>a.1.length<=1000000) (λ_ _=>(.ret,⟨18,[(4,.d (.bool true))],[]⟩)) (λ_=>(.exit 0,⟨18,[],[]⟩)) (λ_ _ h=>by cases h) (λ_ h=>by cases h)
 (by
  rintro⟨l,x⟩ k ae dO hm h0 hk ht hf;dsimp only at*
  (rw[<-qbI];delta Z83 Zn Zo bT cN Bb s7 Za Z9 Zj ZO G8 Zg zC Oi Oj Y6)
  have e1:D.nth (l.map jM) k.toNat=jM l[k.toNat]:=ay _ _ _ dO;have aY:k.toNat<(l.map jM).length:=by rw[zaa];exact dO
  rw[e1];have v:=qjB l[k.toNat] x;generalize l[k.toNat]=y at*
  rw[<-v] at ht hf;simp only[Y5,zaa] at hf aY⊢;exact bz hk (ao ⟨h0,hk⟩ (aq (Kb _) (az (λh=>ht h) λh=>ao (by omega) (hf h)))))
 (by
  rintro⟨l,x⟩ k ae hm hk hp;dsimp only at*
  (rw[<-qbI];delta Z83 Zn Zo bT cN Bb s7 Za Z9 Zj ZO G8 Zg zC Oi Oj Y6)
  exact kA (by first |omega | (simp only[zaa];omega)) hp)
 (by rintro s ae ⟨l,x,rfl,hm,h1,h2⟩;exact⟨(l,x),rfl,hm,λ_ hi _ ht _=>h1 (um hi ht),λh=>h2 (uo h)⟩)
theorem qbL:FD X 92 TA:=FD.mk (H:=[]) (hk:=[(2,ah (aL 92 2) qeb)]) (by kernel_rfl) .nil (.cons Zd .nil) (by
 intro ps R ae hh;obtain⟨l,x,rfl,rfl,hm,hp⟩:=hh
 (rw[<-qjy];delta Z3 Z4 ZO ZP Ci Z83 Z7 ZN bT cN Bb s7)
 exact⟨l,x,rfl,hm,λh=>hp _ (by simp[h]),λh=>hp _ (by simp[h])⟩)
theorem Z5:LD X 42 2 (ah (aL 42 2) qec):=LD.find (H:=[]) (hk:=[]) (by kernel_rfl) (by kernel_rfl) .nil .nil
 (A:=List aw×aw) (λa k=>Y7 a.1 a.2 k) (·.1) (λa _ x=>x==a.2) (λa=>a.1.length<=1000000) (λa _=>(.ret,⟨18,[(0,gh a.1),(4,.d (.bool true))],[]⟩)) (λa=>(.exit 0,⟨18,[(0,gh a.1)],[]⟩)) (λ_ _ h=>by cases h) (λ_ h=>by cases h)
 (by
  rintro⟨l,x⟩ k ae dO hm h0 hk ht hf;dsimp only at*
  (rw[<-qbJ];delta gV gW uG xA Hg Zn Zo bT cN Za Z9 Zj ZO G8 dX lN Ol Zg GH EG Z85 uD A3 Lw Pc)
  have e1:D.nth (l.map bh) k.toNat=bh l[k.toNat]:=ay _ _ _ dO;have aY:k.toNat<(l.map bh).length:=by rw[zaa];exact dO
  rw[e1];have v:=DM l[k.toNat] x;generalize l[k.toNat]=y at*
  rw[<-v] at ht hf;simp only[Y7,zaa] at hf aY⊢;exact bz hk (ao ⟨h0,hk⟩ (aq (jI _) (az (λh=>ht h) λh=>ao (by omega) (hf h)))))
 (by
  rintro⟨l,x⟩ k ae hm hk hp;dsimp only at*
  (rw[<-qbJ];delta gV gW uG xA Hg Zn Zo bT cN Za Z9 Zj ZO G8 dX lN Ol Zg GH EG Z85 uD A3 Lw Pc)
  exact kA (by first |omega | (simp only[zaa];omega)) hp)
 (by rintro s ae ⟨l,x,rfl,hm,h1,h2⟩;exact⟨(l,x),rfl,hm,λ_ hi _ ht _=>h1 (um hi ht),λh=>h2 (uo h)⟩)
theorem qbM:FD X 42 Om:=FD.mk (H:=[]) (hk:=[(2,ah (aL 42 2) qec)]) (by kernel_rfl) .nil (.cons Z5 .nil) (by
 intro ps R ae hh;obtain⟨l,x,rfl,rfl,hm,hp⟩:=hh
 (rw[<-qjz];delta Z3 Z4 ZO ZP dR mR gV gW uG xA Hg Z7 ZN bT cN dX lN Ol)
 exact⟨l,x,rfl,hm,λh=>hp _ (by simp[h]),λh=>hp _ (by simp[h])⟩)
theorem TL:LD X 42 2 (ah (aL 42 2) TC):=LD.find (H:=[]) (hk:=[]) (by kernel_rfl) (by kernel_rfl) .nil .nil
 (A:=List aw×aw) (λa k=>Y8 a.1 a.2 k) (·.1) (λa _ x=>x==a.2) (λa=>a.1.length<=1000000) (λa _=>(.ret,⟨18,[(0,.sl 0 0 a.1.length),(4,.d (.bool true))],[(0,⟨0,some 0,mA false a.1⟩)]⟩)) (λa=>(.exit 0,⟨18,[(0,.sl 0 0 a.1.length)],[(0,⟨0,some 0,mA false a.1⟩)]⟩)) (λ_ _ h=>by cases h) (λ_ h=>by cases h)
 (by
  rintro⟨l,x⟩ k ae dO hm h0 hk ht hf;dsimp only at*
  (rw[<-TB];delta gV gW uG dX SS Zn Zo iQ sY Za Z9 Zj EK ZO G8 dR Al Zg GH EG Z85 uD LS)
  have e1:D.nth (l.map bh) k.toNat=bh l[k.toNat]:=ay _ _ _ dO;have aY:k.toNat<(l.map bh).length:=by rw[zaa];exact dO
  rw[e1];have v:=DM l[k.toNat] x;generalize l[k.toNat]=y at*
  rw[<-v] at ht hf;simp only[Y8,zaa] at hf aY⊢;exact bz hk (ao ⟨h0,hk⟩ (ao aY (aq (jI _) (az (λh=>ht h) λh=>ao (by omega) (hf h))))))
 (by
  rintro⟨l,x⟩ k ae hm hk hp;dsimp only at*
  (rw[<-TB];delta gV gW uG dX SS Zn Zo iQ sY Za Z9 Zj EK ZO G8 dR Al Zg GH EG Z85 uD LS)
  exact kA (by first |omega | (simp only[zaa];omega)) hp)
 (by rintro s ae ⟨l,x,rfl,hm,h1,h2⟩;exact⟨(l,x),rfl,hm,λ_ hi _ ht _=>h1 (um hi ht),λh=>h2 (uo h)⟩)
theorem TM:FD X 42 Hh:=FD.mk (H:=[]) (hk:=[(2,ah (aL 42 2) TC)]) (by kernel_rfl) .nil (.cons TL .nil) (by
 intro ps R ae hh;obtain⟨l,x,rfl,rfl,hm,hp⟩:=hh
 (rw[<-qhk];delta Z3 dX SS EK ZO dR mR gV gW uG Z7 ZN iQ sY Al Z88)
 exact⟨l,x,rfl,hm,λh=>hp _ (by simp[h]),λh=>hp _ (by simp[h])⟩)
theorem TN:LD X 91 2 (ah (aL 91 2) TH):=LD.find (H:=[]) (hk:=[]) (by kernel_rfl) (by kernel_rfl) .nil .nil
 (A:=List av×av) (λa k=>Y9 a.1 a.2 k) (·.1) (λa _ x=>x==a.2) (λa=>a.1.length<=1000000) (λa _=>(.ret,⟨18,[(0,.sl 0 0 a.1.length),(4,.d (.bool true))],[(0,⟨0,some 0,iH false a.1⟩)]⟩)) (λa=>(.exit 0,⟨18,[(0,.sl 0 0 a.1.length)],[(0,⟨0,some 0,iH false a.1⟩)]⟩)) (λ_ _ h=>by cases h) (λ_ h=>by cases h)
 (by
  rintro⟨l,x⟩ k ae dO hm h0 hk ht hf;dsimp only at*
  (rw[<-TG];delta gU gT im gJ gK pq S5 gD Z8c Zn Zo iQ sY Za Z9 Zj TD ZO G8 iq rk Zg JG JH JI Z6I xv qf TE xa)
  have e1:D.nth (l.map bH) k.toNat=bH l[k.toNat]:=ay _ _ _ dO;have aY:k.toNat<(l.map bH).length:=by rw[zaa];exact dO
  rw[e1];have v:=EH l[k.toNat] x;generalize l[k.toNat]=y at*
  rw[<-v] at ht hf;simp only[Y9,zaa] at hf aY⊢;exact bz hk (ao ⟨h0,hk⟩ (ao aY (aq (l6 _) (az (λh=>ht h) λh=>ao (by omega) (hf h))))))
 (by
  rintro⟨l,x⟩ k ae hm hk hp;dsimp only at*
  (rw[<-TG];delta gU gT im gJ gK pq S5 gD Z8c Zn Zo iQ sY Za Z9 Zj TD ZO G8 iq rk Zg JG JH JI Z6I xv qf TE xa)
  exact kA (by first |omega | (simp only[zaa];omega)) hp)
 (by rintro s ae ⟨l,x,rfl,hm,h1,h2⟩;exact⟨(l,x),rfl,hm,λ_ hi _ ht _=>h1 (um hi ht),λh=>h2 (uo h)⟩)
theorem qee:FD X 91 TI:=FD.mk (H:=[]) (hk:=[(2,ah (aL 91 2) TH)]) (by kernel_rfl) .nil (.cons TN .nil) (by
 intro ps R ae hh;obtain⟨l,x,rfl,rfl,hm,hp⟩:=hh
 (rw[<-qhl];delta Z3 gD Z8c TD ZO iq qp gU gT im gJ gK pq S5 Z7 ZN iQ sY rk Z8e)
 exact⟨l,x,rfl,hm,λh=>hp _ (by simp[h]),λh=>hp _ (by simp[h])⟩)
theorem qaa:LD X 57 9 (ah (aL 57 9) qed):=LD.ins (H:=[(88,jc)]) (hk:=[]) (by kernel_rfl) (by kernel_rfl) (.cons nz .nil) .nil
 (A:=List bj×List bj×Nat×Int) (α:=av) (λa o k=>lvI a.1 a.2.1 o a.2.2.1 a.2.2.2 k) mO (λa=>a.2.2.1) (λ_=>True) (λa o=>(.exit 2,⟨72,[(0,ji a.1),(1,ji a.2.1),(5,.sl 0 0 a.2.2.1),(6,iD a.2.2.2)],[(0,⟨0,none,iH false o⟩)]⟩)) (λ_ _ h=>by cases h)
 (by
  rintro⟨h,g,n,i⟩ o k ae _ h0 EO lX hk hz bX dz;dsimp only at*
  subst EO
  (rw[<-qhm];delta gD H4 vA Zt ZK Cj Zg JG JH JI NN Zc V7 Wg Z8j Zs Z8i ZB ZC Bb xG s7 Tk Zx ZE HQ Tm Pd qf Z8f uJ Za Z9 Zb xv TE lY Zr)
  refine b7 (λhp=> ?_) λhp=>hz (by omega);have fh:k.toNat-1<o.length:=by omega
  have ek:(k-1).toNat=k.toNat-1:=by omega
  have e1:D.nth (o.map bH) k.toNat=bH o[k.toNat]:=ay _ _ _ hk;have e2:D.nth (o.map bH) (k.toNat-1)=bH o[k.toNat-1]:=ay _ _ _ fh;have bX:=bX hp;have dz:=dz hp;have vB:=jg bH o k.toNat o[k.toNat] o[k.toNat-1];have e3: ∀z,D.nth ((o.map bH).set k.toNat z) (k.toNat-1)=bH o[k.toNat-1]:=λz=>by unfold D.nth;rw[zac,zaR (by omega)];simp[fh]
  rw[ek,e1,e2];simp only[e3];generalize o[k.toNat]=x at*
  generalize o[k.toNat-1]=y at*
  simp only[zaa,zbb] at dz⊢;have vC:0<=k/\k<(o.length:Int):=⟨h0,by omega⟩
  have vE:0<=k-1/\k-1<(o.length:Int):=⟨by omega,by omega⟩
  have hf:(-9223372036854775808:Int)<=k-1/\k-1<=9223372036854775807:=by omega
  refine ao vC (ao hk (aq (l6 _) (ao hf (ao vE (ao fh (aq (l6 _) ⟨(x).1,(x).2.1,(x).2.2,(y).1,(y).2.1,(y).2.2,rfl,rfl,b7 (λh=> ?_) λh=>bX (by rw[<-zaX];exact λh2=>h ((ij (x) (y)).2 h2))⟩))))));have hy:=dz ((ij (x) (y)).1 h);simp only[lvI,iH] at hy;rw[<-vB] at hy;refine ao hf (ao hf (ao vE (ao fh (aq (l6 _) (ao vC (ao hk (aq (l6 _) (ao vC (ao hk (aq (l6 _) (ao vE (ao fh (aq (l6 _) (ao hf ?_))))))))))))));exact hy)
 (by rintro s ae ⟨h,g,o,x,n,i,k,rfl,⟨hk,hn,ho⟩,hp⟩;refine⟨(h,g,n,i),o,x,k,rfl,hk,trivial,⟨hn.symm,ho⟩,?_⟩;have:=hp _ rfl;rw[lvH,jK,<-hn] at this;exact this)
theorem qab{h g:List bj}{i:Nat}(hi:i<h.length):Oh (h.take (i+1)) g=Tz g (Oh (h.take i) g) h[i]:=by unfold Oh;rw[zag hi,za3];rfl
theorem qef:LD X 57 3 (ah (aL 57 3) gLv):=LD.idx (H:=[(92,TA),(91,TI)]) (hk:=[(9,ah (aL 57 9) qed)]) (by kernel_rfl) (by kernel_rfl) (.cons qbL (.cons qee .nil)) (.cons qaa .nil)
 (A:=List bj×List bj) (B:=List av) (λa o i=>lvH a.1 a.2 o i) (λa=>a.1.length) (λa i o=>(a.1.length<=1000000/\a.2.length<=1000000)/\o=Oh (a.1.take i) a.2)
 (λa x=>x=(.exit 0,⟨72,[(5,.sl 0 0 (Oh a.1 a.2).length)],[(0,⟨0,none,iH false (Oh a.1 a.2)⟩)]⟩))
 (by
  rintro⟨h,g⟩ o i ae h0 bR aY ⟨hm,ho⟩ hn bt;dsimp only at*
  (rw[<-qbK];delta iq xa Z8u Zt qt Ka ZB ZC gD ZK Za Z9 Zg zC Z8q Z8r qf H4 vA Zn ZA Bb xG s7 Zj qp Z8c TD gU gT im gJ gK ve jf rk Z8p Ci Zx Z8n Z8o Oi Oj Y6)
  have lX:o.length<=i.toNat:=by have:=L6 (h.take i.toNat) g;rw[zay] at this;rw[ho];omega
  have e1:D.nth (h.map jM) i.toNat=jM h[i.toNat]:=ay _ _ _ aY;have jQ:=qab (g:=g) aY;rw[<-ho] at jQ;have ga:=λo' (gg:o'=Tz g o h[i.toNat])=>hn o' ⟨hm,by rw[jQ];exact gg⟩;generalize h[i.toNat]=d at*
  rw[e1];simp only[zaa];have t1:List.take o.length (o.map bH)++[bH d.1]=(o++[d.1]).map bH:=cw bH o d.1;refine bz bR (ao ⟨h0,bR⟩ (aq (Kb _) (ao ⟨h0,bR⟩ (aq (Kb _) ⟨g,d,rfl,rfl,hm.2,λb hb=> ?_⟩))));refine az (λvp=>ao (by omega) (ga o ?_)) λuq=>⟨o,d.1,rfl,rfl,by omega,λb2 cm=>az (λTO=>ao (by omega) (ga o ?_)) λTP=> ?_⟩
  ·unfold Tz;rw[hb,zai] at vp;rw[zao (.inl vp)]
  ·unfold Tz;rw[cm,zai] at TO;rw[zao (.inr TO)]
  rw[hb,zaE] at uq;rw[cm,zaE] at TP;have TQ:Tz g o d=cJ mO o d.1:=by unfold Tz;rw[zal (λhh=>hh.elim uq TP)]
  simp only[zap,zat,zaF];refine aq ?_ (ao (by omega) ⟨h,g,o,d.1,o.length+1,i,((o.length+1:Nat):Int)-1,congrArg (λz=>(⟨72,[(0,ji h),(1,ji g),(5,.sl 0 0 (o.length+1)),(6,iD i),(8,iD (((o.length+1:Nat):Int)-1))],[(0,⟨0,none,.arr 50 false z⟩)]⟩:S)) t1,⟨by omega,rfl,by omega⟩,λo' gg=>ao (by omega) (ga o' (by rw[TQ];exact gg))⟩);rw[zab];exact⟨by simp,ct (by omega) (by omega)⟩
 )
 (by
  rintro⟨h,g⟩ o i ae hi ⟨hm,ho⟩ bt;dsimp only at*
  (rw[<-qbK];delta iq xa Z8u Zt qt Ka ZB ZC gD ZK Za Z9 Zg zC Z8q Z8r qf H4 vA Zn ZA Bb xG s7 Zj qp Z8c TD gU gT im gJ gK ve jf rk Z8p Ci Zx Z8n Z8o Oi Oj Y6)
  refine kA (by simp only[zaa];omega) (bt _ (λh=>by cases h) ?_);rw[ho,zaj])
 (by rintro s ae ⟨h,g,rfl,hs,hp⟩;refine⟨(h,g),[],rfl,⟨hs,rfl⟩,?_⟩;rintro x rfl;exact hp _ rfl)
theorem qeg:FD X 57 TK:=FD.mk (H:=[]) (hk:=[(3,ah (aL 57 3) gLv)]) (by kernel_rfl) .nil (.cons qef .nil) (by
 intro ps R ae hh;obtain⟨h,g,rfl,rfl,hs,hp⟩:=hh
 (rw[<-qjA];delta gD H4 vA iq rk Ci Ma Z7 Ed ZQ TJ Bb xG s7 Z8x)
 exact⟨h,g,rfl,hs,λo ho=>hp o ho⟩)
end
abbrev Je:Hd:=((0,0),(0,0))
def TR:S->K (PX×S):=λst ae=> ∃l out i b,st=qdF l out b i 0/\(b=false/\0<=i/\i<(l.length:Int)/\l.length<=1000000/\out.length<=1000000)/\ ∀h,h=out.any (λy=>y.1==(l.getD i.toNat Je).1)->ae (.exit 2,⟨80,[(0,qo l),(3,.sl 0 0 out.length),(4,iD i),(5,.d (.bool h))],[(0,⟨0,none,w5 false out⟩)]⟩)
def On(a b:Hd):Bool:=l7 b.1 a.1
abbrev TS(l out:List Hd)(n:Nat)(i k:Int):S:=⟨80,[(0,qo l),(3,.sl 0 0 n),(4,iD i),(7,iD k)],[(0,⟨0,none,w5 false out⟩)]⟩
def TT:S->K (PX×S):=λst ae=> ∃l o x n i k,st=TS l (o++[x]) n i k/\(k=(o.length:Int)/\n=o.length+1/\o.length<=1000000)/\ ∀o',o'=cJ On o x->ae (.exit 4,SM l o' i)
def Z8A(gR:List Hd)(au:List Hd)(aI:Int):En:=En.mk 0 none (Obj.arr (139:TypeId) false (D5 gR++[D.agg (YC au aI)]))
def TU(gR:List Hd)(au:List Hd)(aI:Int):Nat:=fg gR+List.length [D.agg (YC au aI)]
def Z8y(aI:Int)(ae:PX×S->Prop)(au:List Hd)(gR:List Hd):Prop:=bif Zj aI then ae (PX.normal,S.mk 80 (uf au::sL gR::ua aI) (xC gR)) else False
theorem TV(l out:List Hd)(i:Int)(ae:PX×S->Prop):(bif decide (i<(↑(rU l):Int)) then∃(au:List Hd) (gR:List Hd) (aI:Int) (b:Bool),S.mk 80 (uf l::sL out::nP i::(5,P.d Z3)::Ed) (xC out)=S.mk 80 (uf au::sL gR::nP aI::(5,fI b)::Ed) (xC gR)/\(b=false/\(0:Int)<=aI/\aI<sZ au/\mQ au/\mQ gR)/\ ∀(h:Bool),(h=List.any gR λ(y:Hd)=>Prod.fst y==Prod.fst (List.getD au (Zg aI) Je))->bif h then Z8y aI ae au gR else bif Po aI au then bif wE au aI then bif Nat.ble (fg gR) (rU gR)&&aO (TU gR au aI) 32 then bif decide (Z9<=(↑(TU gR au aI):Int)-(1:Int)/\(↑(TU gR au aI):Int)-(1:Int)<=Za) then∃(l:List Hd) (o:List Hd) (x:Hd) (n:Nat) (i:Int) (k:Int),S.mk 80 [uf au,(3,P.sl 0 0 (TU gR au aI)),nP aI,(7,P.d (D.int .i64 ((↑(TU gR au aI):Int)-(1:Int))))] [(0,Z8A gR au aI)]=S.mk 80 [uf l,(3,ZB n),nP i,qU k] [(0,En.mk 0 none (Obj.arr (139:TypeId) false (List.map bI (o++[x]))))]/\(k=sZ o/\n=fg o+1/\mQ o)/\ ∀(o':List Hd),o'=cJ On o x->Z8y i ae l o' else False else False else False else False else ae (PX.exit 0,S.mk 80 [sL out] (xC out)))=(aD [] [(7,ah (aL 84 7) TR),(13,ah (aL 84 13) TT)] 84 3 (SM l out i)) ae:=by kernel_rfl
def TX:S->K (PX×S):=λst ae=> ∃l,st=SM l [] 0/\l.length<=1000000/\ ∀o,o=cp On (sE l)->ae (.exit 0,⟨80,[(3,.sl 0 0 o.length)],[(0,⟨0,none,w5 false o⟩)]⟩)
def Z8B:En:=En.mk 0 none (Obj.arr (139:TypeId) false [])
def Z8C(l:List Hd):S:=S.mk 80 (uf l::SE) [(0,Z8B)]
theorem qhn(l:List Hd)(ae:P×List (Nat×En)->Prop):(∃(au:List Hd),Z8C l=Z8C au/\mQ au/\ ∀(o:List Hd),o=cp On (sE au)->ae (ra o,xC o))=(aJ [] [(3,ah (aL 84 3) TX)] 84 [qo l] []) ae:=by kernel_rfl
def qeh:bm:=λps R ae=> ∃l,ps=[qo l]/\R=[]/\l.length<=1000000/\ ∀o,o=cp On (sE l)->ae (.sl 0 0 o.length,[(0,⟨0,none,w5 false o⟩)])
def qei:S->K (PX×S):=λst ae=> ∃l,st=YE l [] 0/\l.length<=1000000/\ ∀o,o=l.map fa->ae (.exit 0,⟨26,[(3,.sl 0 0 o.length)],[(0,⟨0,none,w5 false o⟩)]⟩)
def Z8D(l:List ak):S:=S.mk 26 (fE l::SE) [(0,Z8B)]
theorem qho(l:List ak)(ae:P×List (Nat×En)->Prop):(∃(au:List ak),Z8D l=Z8D au/\iR au/\ ∀(o:List Hd),o=List.map fa au->ae (ra o,xC o))=(aJ [] [(3,ah (aL 44 3) qei)] 44 [bC l] []) ae:=by kernel_rfl
def Oo:bm:=λps R ae=> ∃l,ps=[bC l]/\R=[]/\l.length<=1000000/\ ∀o,o=l.map fa->ae (.sl 0 0 o.length,[(0,⟨0,none,w5 false o⟩)])
abbrev qej(m on:List Hd)(i:Int)(un:Bool)(k:Int):S:=⟨63,[(3,.sl 0 0 m.length),(4,.sl 1 0 on.length),(5,iD i),(6,.d (.bool un)),(7,iD k)],[(0,⟨0,none,w5 false m⟩),(1,⟨0,none,w5 false on⟩)]⟩
def TY:S->K (PX×S):=λst ae=> ∃m on i b,st=qej m on i b 0/\(b=false/\0<=i/\i<(m.length:Int)/\m.length<=1000000/\on.length<=1000000)/\ ∀h,h=on.any (λy=>y.2==(m.getD i.toNat Je).1)->ae (.exit 2,⟨63,[(3,.sl 0 0 m.length),(4,.sl 1 0 on.length),(5,iD i),(6,.d (.bool h))],[(0,⟨0,none,w5 false m⟩),(1,⟨0,none,w5 false on⟩)]⟩)
def Wh(m:List Hd)(on:List Hd):List (Nat×En):=[Ak m,(1,GV on)]
def EP(i:Int):Nat×P:=(5,P.d (Zt i))
def Wi(on:List Hd):Nat×P:=(4,P.sl 1 0 (fg on))
theorem T0(m on:List Hd)(i:Int)(un:Bool)(k:Int)(ae:PX×S->Prop):(bif Pn k on then bif un then bif Zj k then ae (PX.normal,S.mk 63 (sL m::Wi on::EP i::(6,ZO)::ZL k) (Wh m on)) else False else bif D8 k on then bif D7 k on then bif wE on k then bif D8 i m then bif D7 i m then bif wE m i then bif Zj k then ae (PX.normal,S.mk 63 (sL m::Wi on::EP i::(6,P.d (D.bool (D.aj (D.ar (sK on k) 2)==A8 m i&&(D.aj (D.ar (sK on k) 3)==D6 m i&&true))))::ZL k) (Wh m on)) else False else False else False else False else False else False else False else ae (PX.exit 2,S.mk 63 [sL m,Wi on,EP i,(6,fI un)] (Wh m on)))=(aD [] [] 53 8 (qej m on i un k)) ae:=by kernel_rfl
abbrev qac(m on:List Hd)(i:Int):S:=⟨63,[(3,.sl 0 0 m.length),(4,.sl 1 0 on.length),(5,iD i)],[(0,⟨0,none,w5 false m⟩),(1,⟨0,none,w5 false on⟩)]⟩
abbrev qad(on:List Hd)(out:List aw)(i:Int):S:=⟨63,[(4,.sl 0 0 on.length),(8,.sl 1 0 out.length),(9,iD i)],[(0,⟨0,none,w5 false on⟩),(1,⟨0,none,mA false out⟩)]⟩
theorem qek(on:List Hd)(out:List aw)(i:Int)(ae:PX×S->Prop):(bif Z2 i then bif D8 i on then bif D7 i on then bif wE on i then bif Nat.ble (dR out) (List.length (dX out))&&aO (dR out+List.length [YB on i]) 16 then bif Zb i then ae (PX.normal,S.mk 63 ((4,ra on)::(8,P.sl 1 0 (dR out+List.length [YB on i]))::Tt i) [Ak on,(1,En.mk 0 none (Obj.arr (30:TypeId) false (List.take (dR out) (dX out)++[YB on i])))]) else False else False else False else False else False else ae (PX.exit 4,S.mk 63 [(8,Al out)] (N2 out)))=(aD [] [] 53 15 (qad on out i)) ae:=by kernel_rfl
theorem T1(m on:List Hd)(i:Int)(ae:PX×S->Prop):(bif Pn i m then∃(bO:List Hd) (aN:List Hd) (aI:Int) (b:Bool),S.mk 63 (sL m::Wi on::EP i::(6,P.d Z3)::sw) (Wh m on)=S.mk 63 (sL bO::Wi aN::EP aI::(6,fI b)::sw) (Wh bO aN)/\(b=false/\(0:Int)<=aI/\aI<sZ bO/\mQ bO/\mQ aN)/\ ∀(h:Bool),(h=List.any aN λ(y:Hd)=>Prod.snd y==Prod.fst (List.getD bO (Zg aI) Je))->bif ju h then bif D8 aI bO then bif D7 aI bO then bif wE bO aI then bif Nat.ble (fg aN) (rU aN)&&aO (TU aN bO aI) 32 then bif Zj aI then ae (PX.normal,S.mk 63 (sL bO::(4,P.sl 1 0 (TU aN bO aI))::Zo aI) [Ak bO,(1,Z8A aN bO aI)]) else False else False else False else False else False else bif Zj aI then ae (PX.normal,S.mk 63 (sL bO::Wi aN::Zo aI) (Wh bO aN)) else False else ae (PX.exit 0,S.mk 63 [(4,ra on)] (xC on)))=(aD [] [(8,ah (aL 53 8) TY)] 53 4 (qac m on i)) ae:=by kernel_rfl
def T2:S->K (PX×S):=λst ae=> ∃m,st=qac m [] 0/\m.length<=1000000/\ ∀o,o=LB m []->ae (.exit 0,⟨63,[(4,.sl 0 0 o.length)],[(0,⟨0,none,w5 false o⟩)]⟩)
def T3:S->K (PX×S):=λst ae=> ∃on i,st=qad on [] i/\(i=(on.length:Int)-1/\on.length<=1000000)/\ ∀o,o=(on.map (·.1)).reverse->ae (.exit 4,⟨63,[(8,.sl 0 0 o.length)],[(0,⟨0,none,mA false o⟩)]⟩)
def Z8I(o:List Hd):S:=S.mk 63 (sL o::(4,uI)::ZN) [Ak o,(1,Z8B)]
def Z8H(l:List Hd):List P:=[P.d (D.sl 4 (List.map bI l))]
theorem qhp(l:List Hd)(ae:P×List (Nat×En)->Prop):(∃(au:List Hd),Z8H l=Z8H au/\Zx/\mQ au/\ ∀(o:List Hd),o=cp On (sE au)-> ∃(m:List Hd),Z8I o=Z8I m/\mQ m/\ ∀(o:List Hd),o=LB m []->bif decide (Z9<=sZ o-(1:Int)/\sZ o-(1:Int)<=Za) then∃(on:List Hd) (i:Int),S.mk 63 [(4,ra o),(8,uI),(9,P.d (D.int .i64 (sZ o-(1:Int))))] [Ak o,(1,w8)]=S.mk 63 [(4,ra on),(8,uI),H2 i] [Ak on,(1,w8)]/\(i=sZ on-(1:Int)/\mQ on)/\ ∀(o:List aw),o=List.reverse (List.map (λ(x:Hd)=>Prod.fst x) on)->ae (Al o,N2 o) else False)=(aJ [(84,qeh)] [(4,ah (aL 53 4) T2),(15,ah (aL 53 15) T3)] 53 [qo l] []) ae:=by kernel_rfl
def qel:bm:=λps R ae=> ∃l,ps=[qo l]/\R=[]/\l.length<=1000000/\ ∀o,o=Yq l->ae (.sl 0 0 o.length,[(0,⟨0,none,mA false o⟩)])
theorem Hi{α:Type}(t:α->Bool)(l:List α){i:Nat}(h:i<l.length):(l.take (i+1)).any t=((l.take i).any t ||t l[i]):=by rw[zag h,zck];simp
section
variable{X:XF}
theorem T4:LD X 84 7 (ah (aL 84 7) TR):=LD.idx (H:=[]) (hk:=[]) (by kernel_rfl) (by kernel_rfl) .nil .nil
 (A:=List Hd×List Hd×Int) (B:=Bool) (λa b k=>qdF a.1 a.2.1 b a.2.2 k) (λa=>a.2.1.length) (λa k b=>(0<=a.2.2/\a.2.2<(a.1.length:Int)/\a.1.length<=1000000/\a.2.1.length<=1000000)/\b=(a.2.1.take k).any (λy=>y.1==(a.1.getD a.2.2.toNat Je).1))
 (λa x=>x=(.exit 2,⟨80,[(0,qo a.1),(3,.sl 0 0 a.2.1.length),(4,iD a.2.2),(5,.d (.bool (a.2.1.any (λy=>y.1==(a.1.getD a.2.2.toNat Je).1))))],[(0,⟨0,none,w5 false a.2.1⟩)]⟩))
 (by
  rintro⟨l,out,i⟩ b k ae h0 uB dO ⟨⟨oU,bR,q5,lX⟩,hb⟩ hn ho;dsimp only at*
  (rw[<-SL];delta fI Zg sK D6 A8 rU Po wE D7 fg sZ D8 GV Ak xC Zn ZA ZO Z5Z Zt nP ra sL uf Za Z9 Zj Pn)
  have e1:D.nth (out.map bI) k.toNat=bI out[k.toNat]:=ay _ _ _ dO;have aY:i.toNat<l.length:=by omega
  have e2:D.nth (l.map bI) i.toNat=bI l[i.toNat]:=ay _ _ _ aY;have Fh:=Hi (λy:Hd=>y.1==(l.getD i.toNat Je).1) out dO;rw[e1,e2];simp only[zaa];refine bz uB (az (λh=>ao (by omega) (hn _ ⟨⟨oU,bR,q5,lX⟩,?_⟩)) λh=>ao ⟨h0,uB⟩ (ao dO (aq (rf _) (ao ⟨oU,bR⟩ (aq (rf _) (ao (by omega) (hn _ ⟨⟨oU,bR,q5,lX⟩,?_⟩)))))))
  ·rw[Fh,<-hb,h];rfl
  rw[Fh,<-hb,h,zbo,eb aY];exact DM out[k.toNat].1 l[i.toNat].1)
 (by
  rintro⟨l,out,i⟩ b k ae hk ⟨h1,hb⟩ ho;dsimp only at*
  (rw[<-SL];delta fI Zg sK D6 A8 rU Po wE D7 fg sZ D8 GV Ak xC Zn ZA ZO Z5Z Zt nP ra sL uf Za Z9 Zj Pn)
  refine kA (by omega) (ho _ (λh=>by cases h) ?_);rw[hb,zaj])
 (by rintro s ae ⟨l,out,i,b,rfl,⟨hb,h1⟩,hp⟩;refine⟨(l,out,i),b,rfl,⟨h1,by rw[hb];simp⟩,?_⟩;rintro x rfl;exact hp _ rfl)
theorem T5:LD X 84 13 (ah (aL 84 13) TT):=LD.ins (H:=[(14,nC)]) (hk:=[]) (by kernel_rfl) (by kernel_rfl) (.cons vj .nil) .nil
 (A:=List Hd×Int×Nat) (α:=Hd) (λa o k=>TS a.1 o a.2.2 a.2.1 k) On (λa=>a.2.2) (λ_=>True) (λa o=>(.exit 4,⟨80,[(0,qo a.1),(3,.sl 0 0 a.2.2),(4,iD a.2.1)],[(0,⟨0,none,w5 false o⟩)]⟩)) (λ_ _ h=>by cases h)
 (by
  rintro⟨l,i,n⟩ o k ae _ h0 EO lX hk hz bX dz;dsimp only at*
  subst EO
  (rw[<-qdG];delta GV Ak xC Zt nP A6 Zg sK D6 A8 YC Zs fg ra sL uf Zc YD Z68 Zx gV gW qe mP AY YB wE rU D7 sZ D8 Z65 Za Z9 Zb Zr)
  refine b7 (λhp=> ?_) λhp=>hz (by omega);have fh:k.toNat-1<o.length:=by omega
  have e1:D.nth (o.map bI) k.toNat=bI o[k.toNat]:=ay _ _ _ hk;have e2:D.nth (o.map bI) (k-1).toNat=bI o[k.toNat-1]:=by rw[show(k-1).toNat=k.toNat-1 by omega];exact ay _ _ _ fh
  have bX:=bX hp;have dz:=dz hp;rw[e1,e2];have vB:=jg bI o k.toNat o[k.toNat] o[k.toNat-1];have KY:=N0 o k.toNat o[k.toNat] o[k.toNat-1];have e3: ∀z,D.nth ((o.map bI).set k.toNat z) (k-1).toNat=bI o[k.toNat-1]:=λz=>by rw[show(k-1).toNat=k.toNat-1 by omega];unfold D.nth;rw[zac,zaR (by omega)];simp[fh]
  generalize o[k.toNat]=x at*
  generalize o[k.toNat-1]=y at*
  have w1:D.aV (D.agg [D.int .i64 (D.aj (D.ar (bI x) 0)),D.int .i64 (D.aj (D.ar (bI x) 1)),D.int .i64 (D.aj (D.ar (bI x) 2)),D.int .i64 (D.aj (D.ar (bI x) 3))]) [D.int .i64 (D.aj (D.ar (bI y) 0)),D.int .i64 (D.aj (D.ar (bI y) 1)),D.int .i64 (D.aj (D.ar (bI y) 2)),D.int .i64 (D.aj (D.ar (bI y) 3))]=bI y:=rfl;have w2:D.aV (D.agg [D.int .i64 (D.aj (D.ar (bI y) 0)),D.int .i64 (D.aj (D.ar (bI y) 1)),D.int .i64 (D.aj (D.ar (bI y) 2)),D.int .i64 (D.aj (D.ar (bI y) 3))]) [D.int .i64 (D.aj (D.ar (bI x) 0)),D.int .i64 (D.aj (D.ar (bI x) 1)),D.int .i64 (D.aj (D.ar (bI x) 2)),D.int .i64 (D.aj (D.ar (bI x) 3))]=bI x:=rfl;rw[w1,e3,w2,show(k-1).toNat=k.toNat-1 by omega,vB];simp only[TS,zaa,zbb] at dz⊢;have vC:0<=k/\k<(o.length:Int):=⟨h0,by omega⟩
  have vE:0<=k-1/\k-1<(o.length:Int):=⟨by omega,by omega⟩
  have hf:(-9223372036854775808:Int)<=k-1/\k-1<=9223372036854775807:=by omega
  refine ao hf (ao vE (ao fh (aq (rf _) (ao vC (ao hk (aq (rf _) ⟨y.1,x.1,rfl,rfl,λr hr=>az (λh=> ?_) λh=>bX (by rw[<-h,hr];rfl)⟩))))));refine ao hf (ao hf (ao vE (ao fh (aq (rf _) (ao vC (ao hk (aq (rf _) (ao vC (ao hk (aq (rf _) (ao vE (ao fh (aq (rf _) (ao hf ?_))))))))))))));exact dz (by rw[<-h,hr];rfl))
 (by rintro s ae ⟨l,o,x,n,i,k,rfl,⟨hk,hn,ho⟩,hp⟩;refine⟨(l,i,n),o,x,k,rfl,hk,trivial,⟨hn.symm,ho⟩,?_⟩;have:=hp _ rfl;rw[SM,jK,<-hn] at this;exact this)
theorem T6:LD X 84 3 (ah (aL 84 3) TX):=LD.idx (H:=[]) (hk:=[(7,ah (aL 84 7) TR),(13,ah (aL 84 13) TT)]) (by kernel_rfl) (by kernel_rfl) .nil (.cons T4 (.cons T5 .nil))
 (A:=List Hd) (B:=List Hd) (λl o i=>SM l o i) (λl=>l.length) (λl i o=>l.length<=1000000/\o=cp On (sE (l.take i)))
 (λl x=>x=(.exit 0,⟨80,[(3,.sl 0 0 (cp On (sE l)).length)],[(0,⟨0,none,w5 false (cp On (sE l))⟩)]⟩))
 (by
  rintro l o i ae h0 bR aY ⟨q5,ho⟩ hn bt
  (rw[<-TV];delta Zt qU ZB Zg sK D6 A8 YC fg D5 Z8A Za Z9 TU wE rU Po GV Ak xC Zn ua ra sL uf Zj Z8y mQ sZ fI Z7 Ed Z3 nP)
  have lX:o.length<=i.toNat:=by rw[ho,kX];have:=qN (l.take i.toNat);rw[zay] at this;omega
  have e2:D.nth (l.map bI) i.toNat=bI l[i.toNat]:=ay _ _ _ aY;have hg:=eb aY Je;have rT:=GW aY;have J8:(o.any λy=>y.1==l[i.toNat].1)=((sE (l.take i.toNat)).any λy=>y.1==l[i.toNat].1):=by rw[ho];exact(bZ _).any_eq
  generalize l[i.toNat]=g at hg rT J8 e2;have t2:D.agg [D.int .i64 (D.aj (D.ar (bI g) 0)),D.int .i64 (D.aj (D.ar (bI g) 1)),D.int .i64 (D.aj (D.ar (bI g) 2)),D.int .i64 (D.aj (D.ar (bI g) 3))]=bI g:=rfl;rw[zaa];refine bz bR ⟨l,o,i,false,rfl,⟨rfl,h0,bR,q5,by omega⟩,λh hh=> ?_⟩;rw[hg] at hh;rw[e2,t2];simp only[zaa,zap,zat,zaF];refine az (λh1=>ao (by omega) (hn _ ⟨q5,?_⟩)) λh1=>ao ⟨h0,bR⟩ (aq (rf _) (aq ?_ (ao (by omega) ⟨l,o,g,o.length+1,i,((o.length+1:Nat):Int)-1,?_,⟨by omega,rfl,by omega⟩,λo' gg=>ao (by omega) (hn _ ⟨q5,?_⟩)⟩)))
  ·rw[rT,LO (by rw[<-J8,<-hh,h1]),ho]
  ·rw[zab];exact⟨by simp,ct (by omega) (by omega)⟩
  ·rw[cw]
  rw[rT,LP (by rw[<-J8,<-hh,h1]),sJ,<-ho,gg])
 (by
  rintro l o i ae hi ⟨q5,ho⟩ bt
  (rw[<-TV];delta Zt qU ZB Zg sK D6 A8 YC fg D5 Z8A Za Z9 TU wE rU Po GV Ak xC Zn ua ra sL uf Zj Z8y mQ sZ fI Z7 Ed Z3 nP)
  simp only[zaa];refine kA (by omega) (bt _ (λh=>by cases h) ?_);rw[ho,zaj])
 (by rintro s ae ⟨l,rfl,hs,hp⟩;refine⟨l,[],rfl,⟨hs,rfl⟩,?_⟩;rintro x rfl;exact hp _ rfl)
theorem qhq:FD X 84 qeh:=FD.mk (H:=[]) (hk:=[(3,ah (aL 84 3) TX)]) (by kernel_rfl) .nil (.cons T6 .nil) (by
 intro ps R ae hh;obtain⟨l,rfl,rfl,hs,hp⟩:=hh
 (rw[<-qhn];delta GV Ak xC fg ra mQ Z8B Z7 JU ZQ SE uf Z8C)
 exact⟨l,rfl,hs,λo ho=>hp o ho⟩)
theorem qae:LD X 44 3 (ah (aL 44 3) qei):=LD.idx (H:=[]) (hk:=[]) (by kernel_rfl) (by kernel_rfl) .nil .nil
 (A:=List ak) (B:=List Hd) (λl o i=>YE l o i) (λl=>l.length) (λl i o=>l.length<=1000000/\o=(l.take i).map fa)
 (λl x=>x=(.exit 0,⟨26,[(3,.sl 0 0 (l.map fa).length)],[(0,⟨0,none,w5 false (l.map fa)⟩)]⟩))
 (by
  rintro l o i ae h0 bR aY ⟨q5,ho⟩ hn bt
  (rw[<-SN];delta GV Ak xC fg ra sL Zg cr fJ Wb my nO D5 Zn ua cS fE Za Z9 Zj Z6a rU cK eD kL qP)
  have lX:o.length<=i.toNat:=by rw[ho];simp;omega
  have e2:D.nth (l.map aQ) i.toNat=aQ l[i.toNat]:=ay _ _ _ aY;have mb:(l.take (i.toNat+1)).map fa=o++[fa l[i.toNat]]:=by rw[zag aY,zaB,ho];rfl
  generalize l[i.toNat]=g at e2 mb;have t2:D.agg [D.int .i64 (D.aj (D.ar (aQ g) 0)),D.int .i64 (D.aj (D.ar (aQ g) 1)),D.int .i64 (D.aj (D.ar (aQ g) 4)),D.int .i64 (D.aj (D.ar (aQ g) 5))]=bI (fa g):=rfl;rw[e2,t2,cw];simp only[zaa,zap,zat,zaF];refine bz bR (ao ⟨h0,bR⟩ (aq (cY _) (ao ⟨h0,bR⟩ (aq (cY _) (aq ?_ (ao (by omega) ?_))))))
  ·rw[zab];exact⟨by simp,ct (by omega) (by omega)⟩
  have:=hn (o++[fa g]) ⟨q5,mb.symm⟩;simp only[YE,zan,zap,zat,zaF] at this;exact this)
 (by
  rintro l o i ae hi ⟨q5,ho⟩ bt
  (rw[<-SN];delta GV Ak xC fg ra sL Zg cr fJ Wb my nO D5 Zn ua cS fE Za Z9 Zj Z6a rU cK eD kL qP)
  simp only[zaa];refine kA (by omega) (bt _ (λh=>by cases h) ?_);rw[ho,zaj])
 (by rintro s ae ⟨l,rfl,hs,hp⟩;refine⟨l,[],rfl,⟨hs,rfl⟩,?_⟩;rintro x rfl;exact hp _ rfl)
theorem qbN:FD X 44 Oo:=FD.mk (H:=[]) (hk:=[(3,ah (aL 44 3) qei)]) (by kernel_rfl) .nil (.cons qae .nil) (by
 intro ps R ae hh;obtain⟨l,rfl,rfl,hs,hp⟩:=hh
 (rw[<-qho];delta GV Ak xC fg ra dA iR Z8B Z7 JU ZQ SE cr cS fE Z8D)
 exact⟨l,rfl,hs,λo ho=>hp o ho⟩)
theorem T7:LD X 53 8 (ah (aL 53 8) TY):=LD.idx (H:=[]) (hk:=[]) (by kernel_rfl) (by kernel_rfl) .nil .nil
 (A:=List Hd×List Hd×Int) (B:=Bool) (λa b k=>qej a.1 a.2.1 a.2.2 b k) (λa=>a.2.1.length) (λa k b=>(0<=a.2.2/\a.2.2<(a.1.length:Int)/\a.1.length<=1000000/\a.2.1.length<=1000000)/\b=(a.2.1.take k).any (λy=>y.2==(a.1.getD a.2.2.toNat Je).1))
 (λa x=>x=(.exit 2,⟨63,[(3,.sl 0 0 a.1.length),(4,.sl 1 0 a.2.1.length),(5,iD a.2.2),(6,.d (.bool (a.2.1.any (λy=>y.2==(a.1.getD a.2.2.toNat Je).1))))],[(0,⟨0,none,w5 false a.1⟩),(1,⟨0,none,w5 false a.2.1⟩)]⟩))
 (by
  rintro⟨l,out,i⟩ b k ae h0 uB dO ⟨⟨oU,bR,q5,lX⟩,hb⟩ hn ho;dsimp only at*
  (rw[<-T0];delta fI Zg sK D6 A8 wE rU D7 fg sZ D8 GV Ak Wh Zn ZL ZO Zt EP Wi ra sL Za Z9 Zj Pn)
  have e1:D.nth (out.map bI) k.toNat=bI out[k.toNat]:=ay _ _ _ dO;have aY:i.toNat<l.length:=by omega
  have e2:D.nth (l.map bI) i.toNat=bI l[i.toNat]:=ay _ _ _ aY;have Fh:=Hi (λy:Hd=>y.2==(l.getD i.toNat Je).1) out dO;rw[e1,e2];simp only[zaa];refine bz uB (az (λh=>ao (by omega) (hn _ ⟨⟨oU,bR,q5,lX⟩,?_⟩)) λh=>ao ⟨h0,uB⟩ (ao dO (aq (rf _) (ao ⟨oU,bR⟩ (ao aY (aq (rf _) (ao (by omega) (hn _ ⟨⟨oU,bR,q5,lX⟩,?_⟩))))))))
  ·rw[Fh,<-hb,h];rfl
  rw[Fh,<-hb,h,zbo,eb aY];exact DM out[k.toNat].2 l[i.toNat].1)
 (by
  rintro⟨l,out,i⟩ b k ae hk ⟨h1,hb⟩ ho;dsimp only at*
  (rw[<-T0];delta fI Zg sK D6 A8 wE rU D7 fg sZ D8 GV Ak Wh Zn ZL ZO Zt EP Wi ra sL Za Z9 Zj Pn)
  refine kA (by omega) (ho _ (λh=>by cases h) ?_);rw[hb,zaj])
 (by rintro s ae ⟨l,out,i,b,rfl,⟨hb,h1⟩,hp⟩;refine⟨(l,out,i),b,rfl,⟨h1,by rw[hb];simp⟩,?_⟩;rintro x rfl;exact hp _ rfl)
theorem T8{l:List Hd}{i:Nat}(h:i<l.length):LB (l.take (i+1)) []=Sp (LB (l.take i) []) l[i]:=by rw[zag h];unfold LB;rw[za3];rfl
theorem T9:LD X 53 4 (ah (aL 53 4) T2):=LD.idx (H:=[]) (hk:=[(8,ah (aL 53 8) TY)]) (by kernel_rfl) (by kernel_rfl) .nil (.cons T7 .nil)
 (A:=List Hd) (B:=List Hd) (λm on i=>qac m on i) (λm=>m.length) (λm i on=>m.length<=1000000/\on=LB (m.take i) [])
 (λm x=>x=(.exit 0,⟨63,[(4,.sl 0 0 (LB m []).length)],[(0,⟨0,none,w5 false (LB m [])⟩)]⟩))
 (by
  rintro m on i ae h0 bR aY ⟨q5,ho⟩ hn bt
  (rw[<-T1];delta GV Ak xC fg ra Zg sK D6 A8 YC D5 Z8A Zn Zo Za Z9 Zj TU rU wE D7 sZ D8 ju mQ fI Wh Z7 sw Z3 Zt EP Wi sL Pn)
  have lX:on.length<=i.toNat:=by rw[ho];have:=uc (m.take i.toNat) [];rw[zay] at this;simp at this;omega
  have e2:D.nth (m.map bI) i.toNat=bI m[i.toNat]:=ay _ _ _ aY;have hg:=eb aY Je;have rT:=T8 aY;generalize m[i.toNat]=g at hg rT e2;have t2:D.agg [D.int .i64 (D.aj (D.ar (bI g) 0)),D.int .i64 (D.aj (D.ar (bI g) 1)),D.int .i64 (D.aj (D.ar (bI g) 2)),D.int .i64 (D.aj (D.ar (bI g) 3))]=bI g:=rfl;refine bz bR ⟨m,on,i,false,rfl,⟨rfl,h0,bR,q5,by omega⟩,λh hh=> ?_⟩;rw[hg] at hh;rw[e2,t2,cw];simp only[zaa,zap,zat,zaF];refine az (λh1=>ao ⟨h0,bR⟩ (ao aY (aq (rf _) (aq ?_ (ao (by omega) ?_))))) λh1=>ao (by omega) (hn _ ⟨q5,?_⟩)
  ·rw[zab];exact⟨by simp,ct (by omega) (by omega)⟩
  ·have hf:(on.any λy=>y.2==g.1)=false:=by rw[<-hh];simpa using h1
   have:=hn (on++[g]) ⟨q5,by rw[rT,<-ho,Sp,zal (by rw[hf];simp)]⟩;simp only[qac,zan,zap,zat,zaF] at this;exact this
  have hf:(on.any λy=>y.2==g.1)=true:=by rw[<-hh];simpa using h1
  rw[rT,<-ho,Sp,zao hf])
 (by
  rintro m on i ae hi ⟨q5,ho⟩ bt
  (rw[<-T1];delta GV Ak xC fg ra Zg sK D6 A8 YC D5 Z8A Zn Zo Za Z9 Zj TU rU wE D7 sZ D8 ju mQ fI Wh Z7 sw Z3 Zt EP Wi sL Pn)
  refine kA (by omega) (bt _ (λh=>by cases h) ?_);rw[ho,zaj])
 (by rintro s ae ⟨m,rfl,hs,hp⟩;refine⟨m,[],rfl,⟨hs,rfl⟩,?_⟩;rintro x rfl;exact hp _ rfl)
theorem Ua:LD X 53 15 (ah (aL 53 15) T3):=LD.par (H:=[]) (hk:=[]) (by kernel_rfl) (by kernel_rfl) .nil .nil
 (A:=List Hd) (B:=Nat×List aw×Int) (λon b=>qad on b.2.1 b.2.2) (λon b=>on.length<=1000000/\b.1<=on.length/\b.2.2=(b.1:Int)-1/\b.2.1=((on.drop b.1).map (·.1)).reverse) (λ_ b=>b.1)
 (λon x=>x=(.exit 4,⟨63,[(8,.sl 0 0 ((on.map (·.1)).reverse).length)],[(0,⟨0,none,mA false ((on.map (·.1)).reverse)⟩)]⟩))
 (by
  rintro on ⟨k,out,i⟩ ⟨hm,hk,hi,ho⟩;dsimp only at*
  (rw[<-qek];delta dX pd N2 dR Al GV Ak Zs Tt fg ra Za Z9 Zb Zg sK D6 A8 YB wE rU D7 sZ D8 Z2)
  cases k with
  |zero=>refine kA (by omega) ?_;rw[ho,zb9];rfl
  |succ k=>
   have bG:k<on.length:=by omega
   have lX:out.length<=on.length:=by rw[ho];simp
   have VU:i.toNat=k:=by omega
   have e1:D.nth (on.map bI) i.toNat=bI on[k]:=by rw[VU];exact ay _ _ _ bG
   have hd:on.drop k=on[k]::on.drop (k+1):=zaY bG;generalize on[k]=h at e1 hd;have t2:D.agg [D.int .i64 (D.aj (D.ar (bI h) 0)),D.int .i64 (D.aj (D.ar (bI h) 1))]=bh h.1:=rfl;rw[e1,t2,cw];simp only[zaa,zap,zat,zaF];refine bz (by omega) (ao ⟨by omega,by omega⟩ (ao (by omega) (aq (rf _) (aq ?_ (ao (by omega) ?_)))))
   ·rw[zab];exact⟨by simp,ct (by omega) (by omega)⟩
   refine⟨k,zbY k,(k,out++[h.1],i-1),?_,⟨hm,by show k<=_;omega,by show i-1=(k:Int)-1;omega,?_⟩,rfl⟩
   ·simp only[qad,zan,zap,zat,zaF]
   show out++[h.1]=_;rw[hd,ho];simp)
 (by rintro s ae ⟨on,i,rfl,⟨hi,hm⟩,hp⟩;refine⟨on,(on.length,[],i),rfl,⟨hm,zak _,hi,by simp⟩,?_⟩;rintro x rfl;exact hp _ rfl)
theorem Oq(l:List Hd):cp On (sE l)=(wY l).reverse:=by
 have hp:(cp On (sE l)).reverse.Perm (sE l):=(zcv _).trans (bZ _);have hw:(cp On (sE l)).Pairwise (λx y=>l7 x.1 y.1=false):=by
  have lin:HS (λa b:aw=>l7 b a):=⟨λx=>mx.K8 x,λx y z h1 h2=>mx.tr z y x h2 h1,λx y h1 h2=>(mx.r4 y x h1 h2).symm⟩
  exact qL lin (λh:Hd=>h.1) (sE l)
 have e:=LA hp (by rw[zcd];exact hw);rw[<-e,List.reverse_reverse]
theorem qhr:FD X 53 qel:=FD.mk (H:=[(84,qeh)]) (hk:=[(4,ah (aL 53 4) T2),(15,ah (aL 53 15) T3)]) (by kernel_rfl) (.cons qhq .nil) (.cons T9 (.cons Ua .nil)) (by
 intro ps R ae hh;obtain⟨l,rfl,rfl,hs,hp⟩:=hh
 (rw[<-qhp];delta dX pd N2 dR Al Zt H2 w8 GV Ak uI fg ra Za sZ Z9 Z8B Z7 ZN sL Z8I mQ Zx Z8H)
 refine⟨l,rfl,rfl,hs,λo ho=>⟨o,rfl,?_,λo2 ho2=> ?_⟩⟩
 ·rw[ho,kX];have:=qN l;omega
 have hl:o2.length<=1000000:=by
  have h1:=uc o [];have h2:o.length<=l.length:=by rw[ho,kX];exact qN l
  rw[ho2];simp at h1;omega
 refine ao (by omega) ⟨o2,_,rfl,⟨rfl,hl⟩,λo3 ho3=>hp o3 ?_⟩;rw[ho3,ho2,ho,Oq];rfl)
end
abbrev Ub(a:aw):Obj:= .box 30 [iD a.1,iD a.2]
abbrev rr2(l:List Hd)(x:aw)(ev:Bool)(n a i:Int):S:=⟨52,[(0,qo l),(3,.ref 0 0 0),(4,.ref 1 0 0),(7,.d (.bool ev)),(8,iD n),(9,iD a),(10,iD i)],[(0,⟨0,none,Ub x⟩),(1,⟨0,none,.box 30 [iD 0,iD 0]⟩)]⟩
def Wj(x:aw):List (Nat×En):=[xA x,(1,rb)]
def Z8J(i:Int):List (Nat×P):=[(10,Zs i)]
theorem qhs(l:List Hd)(x:aw)(ev:Bool)(n a i:Int)(ae:PX×S->Prop):(bif Z2 i then bif Po i l then bif wE l i then bif A8 l i==Prod.fst x&&(D6 l i==Prod.snd x&&true) then bif Zb i then ae (PX.normal,S.mk 52 (uf l::cN::HW::qT ev::qt n::H2 i::Z8J i) (Wj x)) else False else bif Zb i then ae (PX.normal,S.mk 52 (uf l::cN::HW::qT ev::qt n::H2 a::Z8J i) (Wj x)) else False else False else False else ae (PX.exit 2,S.mk 52 [uf l,cN,HW,qT ev,qt n,H2 a] (Wj x)))=(aD [] [] 43 7 (rr2 l x ev n a i)) ae:=by kernel_rfl
def ER(l:List Hd)(x:aw):Int:=jH (λh:Hd=>h.1==x) l
def qem:S->K (PX×S):=λst ae=> ∃l x ev n a i,st=rr2 l x ev n a i/\(a= -1/\i=(l.length:Int)-1/\l.length<=1000000)/\ ∀b:Int,b=ER l x->ae (.exit 2,⟨52,[(0,qo l),(3,.ref 0 0 0),(4,.ref 1 0 0),(7,.d (.bool ev)),(8,iD n),(9,iD b)],[(0,⟨0,none,Ub x⟩),(1,⟨0,none,.box 30 [iD 0,iD 0]⟩)]⟩)
abbrev rr1(l:List Hd)(x:aw)(ev:Bool)(n:Int):S:=⟨52,[(0,qo l),(3,.ref 0 0 0),(4,.ref 1 0 0),(7,.d (.bool ev)),(8,iD n)],[(0,⟨0,none,Ub x⟩),(1,⟨0,none,.box 30 [iD 0,iD 0]⟩)]⟩
def qu:Nat×En:=(0,rb)
def Ot:List (Nat×En):=[qu]
theorem qbO(l:List Hd)(x:aw)(ev:Bool)(n:Int)(ae:PX×S->Prop):(bif decide (n<=(↑(rU l):Int)) then bif decide (Z9<=(↑(rU l):Int)-(1:Int)/\(↑(rU l):Int)-(1:Int)<=Za) then∃(au:List Hd) (aK:aw) (qen:Bool) (cz:Int) (a:Int) (i:Int),S.mk 52 [uf l,cN,HW,qT ev,qt n,(9,Lq),(10,P.d (D.int .i64 ((↑(rU l):Int)-(1:Int))))] (Wj x)=S.mk 52 [uf au,cN,HW,qT qen,qt cz,H2 a,(10,P.d (Zt i))] (Wj aK)/\(a=(-1:Int)/\i=sZ au-(1:Int)/\mQ au)/\ ∀(b:Int),b=ER au aK->bif NB b then ae (PX.ret,S.mk 52 [kY,(5,P.d Z3),(6,P.d (D.int .i64 (111:Int)))] Ot) else bif Po b au then bif wE au b then bif D.aj (D.ar (sK au b) 2)==(0:Int)&&(D.aj (D.ar (sK au b) 3)==(0:Int)&&true) then ae (PX.ret,S.mk 52 (kY::(5,fI qen)::Ed) (Hg aK)) else bif Po b au then bif wE au b then bif Zj cz then ae (PX.normal,S.mk 52 (uf au::cN::HW::(7,P.d (D.bool (ju qen)))::oL cz) [(0,En.mk 0 none (Obj.box (30:TypeId) [P.d (D.int .i64 (D.aj (D.ar (sK au b) 2))),P.d (D.int .i64 (D.aj (D.ar (sK au b) 3)))])),(1,rb)]) else False else False else False else False else False else False else ae (PX.exit 0,S.mk 52 [kY] Ot))=(aD [] [(7,ah (aL 43 7) qem)] 43 3 (rr1 l x ev n)) ae:=by kernel_rfl
def qeo:S->K (PX×S):=λst ae=> ∃l x,st=rr1 l x true 0/\l.length<=1000000/\(∀e r ev,gw l x=(e,r,ev)->ae (.ret,⟨52,[(4,.ref 0 0 0),(5,.d (.bool ev)),(6,iD e)],[(0,⟨0,none,Ub r⟩)]⟩))/\(gw l x=(11,(0,0),false)->ae (.exit 0,⟨52,[(4,.ref 0 0 0)],[(0,⟨0,none,.box 30 [iD 0,iD 0]⟩)]⟩))
def Z8P(ae:P×List (Nat×En)->Prop):Prop:=ae (P.cT [P.d (D.agg [Z7,Z7]),P.d Z3,P.d (D.int .i64 (11:Int))],[])
def Z8O(au:List Hd)(aK:aw)(ae:P×List (Nat×En)->Prop):Prop:= ∀(e:Int) (r:aw) (ev:Bool),gw au aK=(e,r,ev)->ae (P.cT (qe r::fI ev::Zv e),[])
def Z8N(l:List Hd)(x:aw):S:=S.mk 52 (uf l::cN::HW::(7,ZO)::Ec) (Wj x)
theorem qjC(l:List Hd)(x:aw)(ae:P×List (Nat×En)->Prop):(∃(au:List Hd) (aK:aw),Z8N l x=Z8N au aK/\mQ au/\Z8O au aK ae/\(gw au aK=((11:Int),((0:Int),(0:Int)),false)->Z8P ae))=(aJ [] [(3,ah (aL 43 3) qeo)] 43 [qo l,.d (bh x)] []) ae:=by kernel_rfl
def hRr:bm:=λps R ae=> ∃l x,ps=[qo l,.d (bh x)]/\R=[]/\l.length<=1000000/\ ∀e r ev,gw l x=(e,r,ev)->ae (.cT [.d (bh r),.d (.bool ev),iD e],[])
def qep:S->K (PX×S):=λst ae=> ∃l m x,st=er1 l m x (λ_=>none) 0 0/\(m.length<=1000000/\(m.map (·.1)).Nodup)/\ ∀f c,(∀y:aw,f (bh y)=(m.find? (λh=>h.1==y)).map bI)->ae (.exit 0,⟨59,[(0,w6 l),(1,w7 l),(5,.ref 0 0 0),(6,.ref 1 0 0),(10,.mp 2 0)],[(0,⟨0,none,Ub x⟩),(1,⟨0,none,.box 30 [iD 0,iD 0]⟩),(2,⟨0,none,mpS f c⟩)]⟩)
abbrev er2(x:aw)(ev:Bool)(f:D->Option D)(c n i:Int):S:=⟨59,[(5,.ref 0 0 0),(6,.ref 1 0 0),(7,.d (.bool ev)),(10,.mp 2 0),(35,iD n),(36,iD i)],[(0,⟨0,none,Ub x⟩),(1,⟨0,none,.box 30 [iD 0,iD 0]⟩),(2,⟨0,none,mpS f c⟩)]⟩
def Z8Q:List D:=[Z7,Z7,Z7,Z7]
def Z8R(f:D->Option D)(x:aw):D:=cL (f (D.agg [gW x,gV x])) (D.agg Z8Q)
theorem Uc(x:aw)(ev:Bool)(f:D->Option D)(c n i:Int)(ae:PX×S->Prop):(bif ZI i n then bif cx PR (132:TypeId) (Z8R f x) then bif !Option.isSome (f (D.agg [gW x,gV x])) then ae (PX.ret,S.mk 59 [(6,bT),(7,P.d Z3),(8,P.d (D.int .i64 (111:Int)))] Ot) else bif D.aj (D.ar (Z8R f x) 2)==(0:Int)&&(D.aj (D.ar (Z8R f x) 3)==(0:Int)&&true) then ae (PX.ret,S.mk 59 ((6,bT)::qT ev::Ec) (Hg x)) else bif Zj i then ae (PX.normal,S.mk 59 [zz,SJ,(7,P.d (D.bool (ju ev))),SI,(35,P.d (Zt n)),(36,P.d (Zn i))] [(0,En.mk 0 none (Obj.box (30:TypeId) [P.d (D.int .i64 (D.aj (D.ar (Z8R f x) 2))),P.d (D.int .i64 (D.aj (D.ar (Z8R f x) 3)))])),(1,rb),(2,A5 f c)]) else False else False else ae (PX.exit 2,S.mk 59 [(6,bT),qT ev] Ot))=(aD [] [] 37 10 (er2 x ev f c n i)) ae:=by kernel_rfl
def qeq:S->K (PX×S):=λst ae=> ∃l x f c n,st=er2 x true f c n 0/\(n=(l.length:Int)+1/\l.length<=1000000/\ ∀y:aw,f (bh y)=(l.find? (λh=>h.1==y)).map bI)/\(∀e r ev,gw l x=(e,r,ev)->ae (.ret,⟨59,[(6,.ref 0 0 0),(7,.d (.bool ev)),(8,iD e)],[(0,⟨0,none,Ub r⟩)]⟩))/\(gw l x=(11,(0,0),false)-> ∀ev:Bool,ae (.exit 2,⟨59,[(6,.ref 0 0 0),(7,.d (.bool ev))],[(0,⟨0,none,.box 30 [iD 0,iD 0]⟩)]⟩))
def Ud(bO:List Hd):Prop:=mQ bO/\List.Nodup (List.map (λ(x:Hd)=>Prod.fst x) bO)
def Z8S(l:List Hd)(m:List Hd)(x:aw):S:=S.mk 59 [LM l,LL l,zz,SJ,SI,(19,P.sl 3 0 (fg m)),(20,P.d (D.int .i64 (sZ m))),(21,P.d Z7)] [xA x,(1,rb),(2,NY),(3,SG m)]
theorem qjD(l:List Hd)(x:aw)(ae:P×List (Nat×En)->Prop):(∃(au:List Hd),Z6h l=Z6h au/\Zx/\mQ au/\ ∀(m:List Hd),m=wY au-> ∃(eX:List Hd) (bO:List Hd) (aK:aw),Z8S l m x=Z8S eX bO aK/\Ud bO/\ ∀(f:D->Option D) (c:Int),(∀(y:aw),f (bh y)=Option.map bI (List.find? (λ(h:Hd)=>Prod.fst h==y) bO))->bif decide (Z9<=Wa eX+(1:Int)/\Wa eX+(1:Int)<=Za) then∃(l:List Hd) (x:aw) (dS:D->Option D) (ec:Int) (n:Int),S.mk 59 [zz,SJ,(7,ZO),SI,(35,P.d (D.int .i64 (Wa eX+(1:Int)))),(36,P.d Z7)] (Z5W aK f c)=S.mk 59 [zz,SJ,(7,ZO),SI,(35,P.d (Zt n)),(36,P.d Z7)] (Z5W x dS ec)/\(n=sZ l+(1:Int)/\mQ l/\ ∀(y:aw),dS (bh y)=Option.rec ((λ(_:Unit)=>none) ()) (λ(val:Hd)=>(λ(val:Hd)=>(λ(x:Hd)=>some (bI x)) val) val) (List.find? (λ(h:Hd)=>Prod.fst h==y) l))/\Z8O l x ae/\(gw l x=((11:Int),((0:Int),(0:Int)),false)-> ∀(_:Bool),Z8P ae) else False)=(aJ [(68,zy)] [(4,ah (aL 37 4) qep),(10,ah (aL 37 10) qeq)] 37 [w6 l,w7 l,.d (bh x)] []) ae:=by kernel_rfl
def hEr:bm:=λps R ae=> ∃l x,ps=[w6 l,w7 l,.d (bh x)]/\R=[]/\(l.length<=1000000/\(l.map (·.1)).Nodup)/\ ∀e r ev,gw l x=(e,r,ev)->ae (.cT [.d (bh r),.d (.bool ev),iD e],[])
theorem Ou{α:Type}(t:α->Bool)(y:α)(r:List α):jH t (y::r)=if t y=true then 0 else if jH t r<0 then-1 else jH t r+1:=by
 unfold jH;rw[List.findIdx?_cons];by_cases h:t y=true
 ·simp[h]
 rw[zal h,zal h];cases List.findIdx? t r with
 |none=>rfl
 |some i=>simp;omega
theorem qaf{α:Type}(t:α->Bool)(l:List α): -1<=jH t l:=by unfold jH;split<;>omega
theorem Ov{α:Type}(t:α->Bool)(l:List α):(jH t l<0->l.find? t=none)/\(0<=jH t l-> ∃h:(jH t l).toNat<l.length,l.find? t=some l[(jH t l).toNat]):=by
 unfold jH;cases h:List.findIdx? t l with
 |none=>refine⟨λ_=> ?_,λh=>by simp at h⟩;rw[zb5];intro x hx;have:=(zbL.1 h) x hx;simp[this]
 |some i=>obtain⟨hi,ht,hb⟩:=zbp.1 h;refine⟨λh=>by simp at h;omega,λ_=>⟨by simpa using hi,?_⟩⟩;rw[zc0];refine⟨by simpa using ht,i,hi,by simp,λj hj=>by simpa using hb j hj⟩
theorem zD{l:List Hd}{n:Nat}{x:aw}{e:Bool}(h:l.find? (λh=>h.1==x)=none):oX l (n+1) x e=(111,(0,0),false):=by unfold oX;rw[h];rfl
theorem Ck{l:List Hd}{n:Nat}{x:aw}{e:Bool}{g:Hd}(h:l.find? (λh=>h.1==x)=some g)(hu:g.2=(0,0)):oX l (n+1) x e=(0,x,e):=by unfold oX;rw[h];show(if g.2=(0,0) then _ else _)=_;rw[zao hu]
theorem zF{l:List Hd}{n:Nat}{x:aw}{e:Bool}{g:Hd}(h:l.find? (λh=>h.1==x)=some g)(hu:g.2≠(0,0)):oX l (n+1) x e=oX l n g.2 (!e):=by rw[show oX l (n+1) x e=(match(l.find? λh=>h.1==x).map (·.2) with |none=>(111,(0,0),false)|some u=>if u=(0,0) then(0,x,e) else oX l n u (!e)) from rfl,h];show(if g.2=(0,0) then _ else _)=_;rw[zal hu]
section
variable{X:XF}
theorem qag:LD X 43 7 (ah (aL 43 7) qem):=LD.par (H:=[]) (hk:=[]) (by kernel_rfl) (by kernel_rfl) .nil .nil
 (A:=List Hd×aw×Bool×Int) (B:=Nat×Int×Int) (λa b=>rr2 a.1 a.2.1 a.2.2.1 a.2.2.2 b.2.1 b.2.2)
 (λa b=>a.1.length<=1000000/\b.1<=a.1.length/\b.2.2=(b.1:Int)-1/\b.2.1=(if ER (a.1.drop b.1) a.2.1<0 then-1 else ER (a.1.drop b.1) a.2.1+b.1)) (λ_ b=>b.1)
 (λa x=>x=(.exit 2,⟨52,[(0,qo a.1),(3,.ref 0 0 0),(4,.ref 1 0 0),(7,.d (.bool a.2.2.1)),(8,iD a.2.2.2),(9,iD (ER a.1 a.2.1))],[(0,⟨0,none,Ub a.2.1⟩),(1,⟨0,none,.box 30 [iD 0,iD 0]⟩)]⟩))
 (by
  rintro⟨l,x,ev,n⟩ ⟨k,at',i⟩ ⟨hm,hk,hi,ha⟩;dsimp only at*
  (rw[<-qhs];delta Z7 mr rb gV gW uG xA Wj Zs Z8J Zt H2 qt fI qT iQ HW bT cN uf Za Z9 Zb Zg sK D6 A8 wE rU Po Z2)
  cases k with
  |zero=>
   refine kA (by omega) ?_;have hge:=qaf (λh:Hd=>h.1==x) l;have:at'=ER l x:=by rw[ha,zb9];unfold ER;split<;>omega
   rw[this];rfl
  |succ k=>
   have bG:k<l.length:=by omega
   have VU:i.toNat=k:=by omega
   have e1:D.nth (l.map bI) i.toNat=bI l[k]:=by rw[VU];exact ay _ _ _ bG
   have hd:l.drop k=l[k]::l.drop (k+1):=zaY bG;generalize l[k]=h at e1 hd;rw[e1,zaa,show(D.aj (D.ar (bI h) 0)==x.1&&(D.aj (D.ar (bI h) 1)==x.2&&true))=(h.1==x) from DM h.1 x];have hc:ER (l.drop k) x=if(h.1==x)=true then 0 else if ER (l.drop (k+1)) x<0 then-1 else ER (l.drop (k+1)) x+1:=by unfold ER;rw[hd];exact Ou _ _ _
   refine bz (by omega) (ao ⟨by omega,by omega⟩ (aq (rf _) (az (λhx=>ao (by omega) ?_) λhx=>ao (by omega) ?_)))
   ·refine⟨k,zbY k,(k,i,i-1),rfl,⟨hm,by show k<=_;omega,by show i-1=(k:Int)-1;omega,?_⟩,rfl⟩;show i=if ER (l.drop k) x<0 then-1 else ER (l.drop k) x+(k:Int)
    rw[zao hx] at hc;rw[hc,zal (by omega)];omega
   refine⟨k,zbY k,(k,at',i-1),rfl,⟨hm,by show k<=_;omega,by show i-1=(k:Int)-1;omega,?_⟩,rfl⟩;show at'=if ER (l.drop k) x<0 then-1 else ER (l.drop k) x+(k:Int)
   rw[zal (by rw[hx];simp)] at hc;by_cases hz:ER (l.drop (k+1)) x<0
   ·rw[zao hz] at hc ha;rw[hc,ha,zao (by omega)]
   rw[zal hz] at hc ha;rw[hc,ha,zal (by omega)];omega)
 (by
  rintro s ae ⟨l,x,ev,n,a,i,rfl,⟨ha,hi,hm⟩,hp⟩;refine⟨(l,x,ev,n),(l.length,a,i),rfl,⟨hm,zak _,hi,?_⟩,?_⟩
  ·show a=if ER (l.drop l.length) x<0 then _ else _
   rw[zcB,ha];rfl
  rintro y rfl;exact hp _ rfl)
theorem qah:LD X 43 3 (ah (aL 43 3) qeo):=LD.idx (H:=[]) (hk:=[(7,ah (aL 43 7) qem)]) (by kernel_rfl) (by kernel_rfl) .nil (.cons qag .nil)
 (A:=List Hd×aw) (B:=aw×Bool) (λa b n=>rr1 a.1 b.1 b.2 n) (λa=>a.1.length+1) (λa n b=>a.1.length<=1000000/\n<=a.1.length+1/\gw a.1 a.2=oX a.1 (a.1.length+1-n) b.1 b.2)
 (λa y=>(∃e r ev,gw a.1 a.2=(e,r,ev)/\y=(.ret,⟨52,[(4,.ref 0 0 0),(5,.d (.bool ev)),(6,iD e)],[(0,⟨0,none,Ub r⟩)]⟩))\/(gw a.1 a.2=(11,(0,0),false)/\y=(.exit 0,⟨52,[(4,.ref 0 0 0)],[(0,⟨0,none,.box 30 [iD 0,iD 0]⟩)]⟩)))
 (by
  rintro⟨l,x0⟩ ⟨x,ev⟩ n ae h0 rH HL ⟨hm,hn1,hr⟩ hn ho;dsimp only at*
  (rw[<-qbO];delta Z7 mr rb Zn oL ju Za Z9 Zj gV gW uG xA Hg Ed fI Zg sK wE rU Po qu Ot Z3 bT kY NB fg mQ sZ Zt H2 Wj Lq qt qT iQ HW cN uf)
  have hfu:l.length+1-n.toNat=(l.length-n.toNat)+1:=by omega
  rw[hfu] at hr;rw[zaa];obtain⟨hf1,hf2⟩:=Ov (λh:Hd=>h.1==x) l;refine bz (by omega) (ao (by omega) ⟨l,x,ev,n,_,_,rfl,⟨rfl,rfl,hm⟩,λb hb=> ?_⟩);rw[zaa];refine b7 (λqht=>ho _ (λh=>by cases h) (.inl ⟨111,(0,0),false,?_,rfl⟩)) λXV=> ?_
  ·rw[hr,zD (hf1 (by rw[hb] at qht;exact qht))]
  obtain⟨bG,hf⟩:=hf2 (by rw[hb] at XV;unfold ER at XV;omega);have hbn:b.toNat=(jH (λh:Hd=>h.1==x) l).toNat:=by rw[hb];rfl
  rw[<-hbn] at bG;simp only[<-hbn] at hf;have e1:D.nth (l.map bI) b.toNat=bI l[b.toNat]:=ay _ _ _ bG;generalize l[b.toNat]=g at hf e1;rw[e1,show(D.aj (D.ar (bI g) 2)==0&&(D.aj (D.ar (bI g) 3)==0&&true))=(g.2==(0,0)) from DM g.2 (0,0)];refine ao ⟨by omega,by omega⟩ (aq (rf _) (az (λhu=>ho _ (λh=>by cases h) (.inl ⟨0,x,ev,?_,rfl⟩)) λhu=>ao ⟨by omega,by omega⟩ (aq (rf _) (ao (by omega) (hn (g.2,!ev) ⟨hm,by omega,?_⟩)))))
  ·rw[hr,Ck hf (by simpa using hu)]
  rw[hr,zF hf (by simpa using hu)];congr 1;omega)
 (by
  rintro⟨l,x0⟩ ⟨x,ev⟩ n ae rH ⟨hm,hn1,hr⟩ ho;dsimp only at*
  (rw[<-qbO];delta Z7 mr rb Zn oL ju Za Z9 Zj gV gW uG xA Hg Ed fI Zg sK wE rU Po qu Ot Z3 bT kY NB fg mQ sZ Zt H2 Wj Lq qt qT iQ HW cN uf;rw[zaa])
  refine kA (by omega) (ho _ (λh=>by cases h) (.inr ⟨?_,rfl⟩));rw[hr,zcZ];rfl)
 (by
  rintro s ae ⟨l,x,rfl,hm,h1,h2⟩;refine⟨(l,x),(x,true),rfl,⟨hm,by omega,rfl⟩,?_⟩;rintro y (⟨e,r,ev,h3,rfl⟩| ⟨h3,rfl⟩)
  ·exact h1 e r ev h3
  exact h2 h3)
theorem qjE:FD X 43 hRr:=FD.mk (H:=[]) (hk:=[(3,ah (aL 43 3) qeo)]) (by kernel_rfl) .nil (.cons qah .nil) (by
 intro ps R ae hh;obtain⟨l,x,rfl,rfl,hm,hp⟩:=hh
 (rw[<-qjC];delta Z3 Z7 Z8P Zt Zv fI gV gW qe Z8O fg mQ mr rb uG xA Wj Ec ZO iQ HW bT cN uf Z8N)
 exact⟨l,x,rfl,hm,λe r ev h=>hp e r ev h,λh=>hp _ _ _ h⟩)
end
theorem qai{a b:aw}(h:bh a=bh b):a=b:=by
 obtain⟨a1,a2⟩:=a;obtain⟨b1,b2⟩:=b;unfold bh at h;injection h with h
 injection h with h1 h2
 injection h2 with h2 h3
 injection h1 with _ h1
 injection h2 with _ h2
 simp at h1 h2;rw[h1,h2]
theorem Ue(a b:aw):D.oO (bh a) (bh b)=(a==b):=by rw[zaH,D.hQ,zaT];exact⟨qai,λh=>by rw[h]⟩
section
variable{X:XF}
theorem qaj:LD X 37 4 (ah (aL 37 4) qep):=LD.idx (H:=[]) (hk:=[]) (by kernel_rfl) (by kernel_rfl) .nil .nil
 (A:=List Hd×List Hd×aw) (B:=(D->Option D)×Int) (λa b i=>er1 a.1 a.2.1 a.2.2 b.1 b.2 i) (λa=>a.2.1.length) (λa i b=>(a.2.1.length<=1000000/\(a.2.1.map (·.1)).Nodup)/\ ∀y:aw,b.1 (bh y)=((a.2.1.take i).find? (λh=>h.1==y)).map bI)
 (λa y=> ∃f c,(∀z:aw,f (bh z)=(a.2.1.find? (λh=>h.1==z)).map bI)/\y=(.exit 0,⟨59,[(0,w6 a.1),(1,w7 a.1),(5,.ref 0 0 0),(6,.ref 1 0 0),(10,.mp 2 0)],[(0,⟨0,none,Ub a.2.2⟩),(1,⟨0,none,.box 30 [iD 0,iD 0]⟩),(2,⟨0,none,mpS f c⟩)]⟩))
 (by
  rintro⟨l,m,x⟩ ⟨f,c⟩ i ae h0 bR aY ⟨⟨hm,kS⟩,hf⟩ hn ho;dsimp only at*
  (rw[<-SK];delta A5 Z7 mr rb gV gW uG xA Z5W SG Zg sK D6 A8 YB Z5T Zn fg sZ SI iQ SJ bT zz qQ LL oJ LM Za Z9 Zj rU D7 D8 Pn)
  have e1:D.nth (m.map bI) i.toNat=bI m[i.toNat]:=ay _ _ _ aY;have mb:m.take (i.toNat+1)=m.take i.toNat++[m[i.toNat]]:=zag aY;have hnk: ∀z∈m.take i.toNat,z.1≠m[i.toNat].1:=by
   intro z hz he;have:(m.take (i.toNat+1)).map (·.1)|>.Nodup:=(kS.sublist ((zcX _ _).map _))
   rw[mb,zaB,za2] at this;exact this.2.2 z.1 (za6 hz) _ (by simp) he
  rw[e1];generalize m[i.toNat]=g at mb hnk;have t1:D.agg [D.int .i64 (D.aj (D.ar (bI g) 0)),D.int .i64 (D.aj (D.ar (bI g) 1))]=bh g.1:=rfl;have t2:D.agg [D.int .i64 (D.aj (D.ar (bI g) 0)),D.int .i64 (D.aj (D.ar (bI g) 1)),D.int .i64 (D.aj (D.ar (bI g) 2)),D.int .i64 (D.aj (D.ar (bI g) 3))]=bI g:=rfl;refine bz bR (ao ⟨h0,bR⟩ (ao (by simpa using aY) (aq (YF _) (ao (by omega) ?_))));refine hn (_,_) ⟨⟨hm,kS⟩,λy=> ?_⟩;show(bif D.oO (bh g.1) (bh y) then some (bI g) else f (bh y))=_;rw[Ue,hf y,mb,List.find?_append];by_cases hy:g.1=y
  ·subst hy;rw[show(g.1==g.1)=true by simp,zbT];rw[show(m.take i.toNat).find? (λh=>h.1==g.1)=none from by rw[zb5];intro z hz;simpa using hnk z hz];simp
  rw[show(g.1==y)=false by simpa using hy,zbn];simp[hy])
 (by
  rintro⟨l,m,x⟩ ⟨f,c⟩ i ae hi ⟨⟨hm,kS⟩,hf⟩ ho;dsimp only at*
  (rw[<-SK];delta A5 Z7 mr rb gV gW uG xA Z5W SG Zg sK D6 A8 YB Z5T Zn fg sZ SI iQ SJ bT zz qQ LL oJ LM Za Z9 Zj rU D7 D8 Pn)
  refine kA (by omega) (ho _ (λh=>by cases h) ⟨f,c,?_,rfl⟩);rw[zaj] at hf;exact hf)
 (by rintro s ae ⟨l,m,x,rfl,h1,hp⟩;refine⟨(l,m,x),(λ_=>none,0),rfl,⟨h1,λy=>rfl⟩,?_⟩;rintro y ⟨f,c,h3,rfl⟩;exact hp f c h3)
theorem qak:LD X 37 10 (ah (aL 37 10) qeq):=LD.idx (H:=[]) (hk:=[]) (by kernel_rfl) (by kernel_rfl) .nil .nil
 (A:=List Hd×aw×(D->Option D)×Int×Int) (B:=aw×Bool) (λa b i=>er2 b.1 b.2 a.2.2.1 a.2.2.2.1 a.2.2.2.2 i) (λa=>a.1.length+1)
 (λa n b=>(a.2.2.2.2=(a.1.length:Int)+1/\a.1.length<=1000000/\ ∀y:aw,a.2.2.1 (bh y)=(a.1.find? (λh=>h.1==y)).map bI)/\n<=a.1.length+1/\gw a.1 a.2.1=oX a.1 (a.1.length+1-n) b.1 b.2)
 (λa y=>(∃e r ev,gw a.1 a.2.1=(e,r,ev)/\y=(.ret,⟨59,[(6,.ref 0 0 0),(7,.d (.bool ev)),(8,iD e)],[(0,⟨0,none,Ub r⟩)]⟩))\/(gw a.1 a.2.1=(11,(0,0),false)/\ ∃ev:Bool,y=(.exit 2,⟨59,[(6,.ref 0 0 0),(7,.d (.bool ev))],[(0,⟨0,none,.box 30 [iD 0,iD 0]⟩)]⟩)))
 (by
  rintro⟨l,x0,f,c,N⟩ ⟨x,ev⟩ n ae h0 rH HL ⟨⟨hN,hm,hf⟩,hn1,hr⟩ hn ho;dsimp only at*
  (rw[<-Uc];delta A5 Z7 mr rb Zn Zt SI ju iQ SJ bT zz Za Z9 Zj gV gW uG xA Hg Ec fI qT qu Ot Z3 Z8Q Z8R ZI)
  have hfu:l.length+1-n.toNat=(l.length-n.toNat)+1:=by omega
  rw[hfu] at hr;rw[show f (D.agg [D.int .i64 x.1,D.int .i64 x.2])=(l.find? (λh=>h.1==x)).map bI from hf x];refine bz (by omega) ?_;cases hg:l.find? (λh=>h.1==x) with
  |none=>have z0:cL ((none:Option Hd).map bI) (D.agg [D.int .i64 0,D.int .i64 0,D.int .i64 0,D.int .i64 0])=bI Je:=rfl;rw[z0];refine aq (YF _) (az (λ_=>ho _ (λh=>by cases h) (.inl ⟨111,(0,0),false,?_,rfl⟩)) λh=>by simp at h);rw[hr,zD hg]
  |some g=>
   have z0:cL ((some g).map bI) (D.agg [D.int .i64 0,D.int .i64 0,D.int .i64 0,D.int .i64 0])=bI g:=rfl;rw[z0,show(D.aj (D.ar (bI g) 2)==0&&(D.aj (D.ar (bI g) 3)==0&&true))=(g.2==(0,0)) from DM g.2 (0,0)];refine aq (YF _) (az (λh=>by simp at h) λ_=>az (λhu=>ho _ (λh=>by cases h) (.inl ⟨0,x,ev,?_,rfl⟩)) λhu=>ao (by omega) (hn (g.2,!ev) ⟨⟨hN,hm,hf⟩,by omega,?_⟩))
   ·rw[hr,Ck hg (by simpa using hu)]
   rw[hr,zF hg (by simpa using hu)];congr 1;omega)
 (by
  rintro⟨l,x0,f,c,N⟩ ⟨x,ev⟩ n ae rH ⟨⟨hN,hm,hf⟩,hn1,hr⟩ ho;dsimp only at*
  (rw[<-Uc];delta A5 Z7 mr rb Zn Zt SI ju iQ SJ bT zz Za Z9 Zj gV gW uG xA Hg Ec fI qT qu Ot Z3 Z8Q Z8R ZI)
  refine kA (by omega) (ho _ (λh=>by cases h) (.inr ⟨?_,ev,rfl⟩));rw[hr,zcZ];rfl)
 (by
  rintro s ae ⟨l,x,f,c,n,rfl,h1,h2,h3⟩;refine⟨(l,x,f,c,n),(x,true),rfl,⟨h1,by omega,rfl⟩,?_⟩;rintro y (⟨e,r,ev,h4,rfl⟩| ⟨h4,ev,rfl⟩)
  ·exact h2 e r ev h4
  exact h3 h4 ev)
theorem qjF:FD X 37 hEr:=FD.mk (H:=[(68,zy)]) (hk:=[(4,ah (aL 37 4) qep),(10,ah (aL 37 10) qeq)]) (by kernel_rfl) (.cons LQ .nil) (.cons qaj (.cons qak .nil)) (by
 intro ps R ae hh;obtain⟨l,x,rfl,rfl,⟨hm,kS⟩,hp⟩:=hh
 (rw[<-qjD];delta Z3 Z7 Z8P Zt Zv fI gV gW qe Z8O fg sZ A5 mr rb uG xA Z5W SI ZO iQ SJ bT zz Za qQ oJ Wa Z9 mQ Ud SG NY LL LM Z8S Zx Z6h)
 have GX:(wY l).Perm l:=by unfold wY;rw[Yp kS];exact bZ _
 simp only[zaa];refine⟨l,rfl,rfl,hm,λm VX=>⟨l,m,x,rfl,⟨by rw[VX,GX.length_eq];exact hm,by rw[VX];exact(GX.map (·.1)).nodup_iff.2 kS⟩,λf c hf=>ao (by omega) ⟨l,x,f,c,_,rfl,⟨by omega,hm,λy=> ?_⟩,λe r ev h=>hp e r ev h,λh ev=>hp _ _ _ h⟩⟩⟩;rw[hf y,VX,NW kS GX y];cases l.find? (λh:Hd=>h.1==y)<;>rfl)
end
abbrev Ow(z:Bool)(v:List Int):Obj:= .arr 3 z (a8 v)
abbrev hvH(m:List ak)(v:List Int)(i:Int):S:=⟨33,[(3,.sl 0 0 16),(8,.sl 1 0 m.length),(9,iD (m.length:Int)),(10,iD i)],[(0,⟨0,none,Ow false v⟩),(1,⟨0,none,kV false m⟩)]⟩
def sP(m:List ak):Nat×En:=(1,kz m)
def Cl(m:List ak):P:=P.d (D.int .i64 (gX m))
def mZ(m:List ak):P:=P.sl 1 0 (dA m)
def Z8V:Nat×P:=(3,P.sl 0 0 16)
def Hj(m:List ak)(i:Int):Int:=D.aj (D.ar (fJ m i) 1)-(1:Int)
theorem qbP(m:List ak)(v:List Int)(i:Int)(ae:PX×S->Prop):(bif xx i m then bif ki i m then bif iA i m then bif cK m i then bif decide (Z9<=Hj m i/\Hj m i<=Za) then bif decide (Z9<=Hj m i/\Hj m i<=Za) then bif decide ((0:Int)<=Hj m i/\Hj m i<(16:Int)) then bif decide (Int.toNat (Hj m i)<List.length (a8 v)) then bif cx PR (3:TypeId) (D.nth (a8 v) (Int.toNat (Hj m i))) then bif decide ((0:Int)<=Hj m i/\Hj m i<(16:Int)) then bif decide (Int.toNat (Hj m i)<List.length (a8 v)) then bif cx PR (3:TypeId) (D.nth (a8 v) (Int.toNat (Hj m i))) then bif Zj i then ae (PX.normal,S.mk 33 [Z8V,(8,mZ m),(9,Cl m),(10,P.d (Zn i))] [(0,En.mk 0 none (Obj.arr (3:TypeId) false (List.set (a8 v) (Int.toNat (Hj m i)) (D.aV (D.int .i64 (D.aj (D.nth (a8 v) (Int.toNat (Hj m i))))) [D.int .i64 (max (D.aj (D.nth (a8 v) (Int.toNat (Hj m i)))) (xw m i))])))),sP m]) else False else False else False else False else False else False else False else False else False else False else False else False else ae (PX.exit 0,S.mk 33 [Z8V] (ZD v)))=(aD [] [] 27 3 (hvH m v i)) ae:=by kernel_rfl
def gi(m:List ak):Prop:=m.length<=1000000/\ ∀g∈m,1<=g.s.2/\g.s.2<=16/\1<=g.s.1/\g.s.1<=1099511627776/\1<=g.n/\g.n<=1099511627776
def gHv:S->K (PX×S):=λst ae=> ∃m,st=hvH m (List.replicate 16 0) 0/\gi m/\ ∀v,v=sG m->ae (.exit 0,⟨33,[(3,.sl 0 0 16)],[(0,⟨0,none,Ow false v⟩)]⟩)
def Ei:bm:=λps R ae=> ∃v,ps=[vD v]/\R=[]/\v.length<=1000000/\ ∀w,w=bb v->ae (vD w,[])
def Z90(m:List ak):S:=S.mk 33 [Z8V,(8,mZ m),(9,Cl m),(10,P.d Z7)] [(0,En.mk 0 none (Obj.arr (3:TypeId) false (Z7::Z7::Z7::Z7::Z7::Z7::Z7::Z7::Z7::Z7::Z7::Z7::Z8Q))),sP m]
def rn(l:List ak)(au:List ak):Prop:=[cS l]=[cS au]
theorem qjG(l:List ak)(ae:P×List (Nat×En)->Prop):(∃(au:List ak),rn l au/\Zx/\jP au/\ ∀(m:List ak),m=aC au-> ∃(bO:List ak),Z90 m=Z90 bO/\gi bO/\ ∀(v:List Int),v=sG bO-> ∃(cI:List Int),[P.d (D.sl 1 (List.take 16 (a8 v)))]=ZW cI/\Zx/\wW cI/\ ∀(w:List Int),w=bb cI->ae (Zk w,[]))=(aJ [(30,nE),(45,Ei)] [(3,ah (aL 27 3) gHv)] 27 [bC l] []) ae:=by kernel_rfl
def hHv:bm:=λps R ae=> ∃l,ps=[bC l]/\R=[]/\jP l/\ ∀v,v=iv (aC l)->ae (vD v,[])
abbrev hnH(r:Int)(v:List Int)(m:List ak)(t i:Int):S:=⟨50,[(1,iD r),(4,.ref 0 0 0),(6,iD t),(7,vD v),(21,.sl 3 0 m.length),(22,iD (m.length:Int)),(23,iD i)],[(0,⟨0,none,.box 34 [iD 0,iD 0,iD 0,.sl 1 0 0,iD 0,iD 0,.sl 2 0 0]⟩),(1,⟨0,none,Ow false []⟩),(2,⟨0,none,.arr 54 false []⟩),(3,⟨0,none,kV false m⟩)]⟩
def Z92:Nat×En:=(2,En.mk 0 none (Obj.arr (54:TypeId) false []))
def Z91:Nat×En:=(0,En.mk 0 none (Obj.box (34:TypeId) [P.d Z7,P.d Z7,P.d Z7,uI,P.d Z7,P.d Z7,P.sl 2 0 0]))
def Z94:List (Nat×En):=[Z91,(1,ZT),Z92]
def Wk(m:List ak):List (Nat×En):=[Z91,(1,ZT),Z92,(3,kz m)]
theorem qbQ(r:Int)(v:List Int)(m:List ak)(t i:Int)(ae:PX×S->Prop):(bif xx i m then bif ki i m then bif iA i m then bif cK m i then bif Zj i then ae (PX.normal,S.mk 50 [ZF r,kY,(6,P.d (D.int .i64 (max t (D.aj (D.ar (fJ m i) 0))))),(7,Zk v),(21,P.sl 3 0 (dA m)),(22,Cl m),(23,P.d (Zn i))] (Wk m)) else False else False else False else False else ae (PX.exit 0,S.mk 50 [ZF r,kY,ZK t,(7,Zk v)] Z94))=(aD [] [] 12 5 (hnH r v m t i)) ae:=by kernel_rfl
def gHn:S->K (PX×S):=λst ae=> ∃r v m,st=hnH r v m 0 0/\gi m/\ ∀t,t=mY m->ae (.exit 0,⟨50,[(1,iD r),(4,.ref 0 0 0),(6,iD t),(7,vD v)],[(0,⟨0,none,.box 34 [iD 0,iD 0,iD 0,.sl 1 0 0,iD 0,iD 0,.sl 2 0 0]⟩),(1,⟨0,none,Ow false []⟩),(2,⟨0,none,.arr 54 false []⟩)]⟩)
def Z96:List D:=[Z7,Z7,D.sl 18 []]
def Z9b(t:Int)(ae:P×List (Nat×En)->Prop)(bY:Int)(n:Int)(cI:List Int):Prop:=bif Zj t then ae (P.cT (P.d (D.agg (Zn t::Zt bY::Zn n::D.sl 1 (a8 cI)::Z96))::mr),[]) else False
def zG:D:=D.sl 1 []
def Z97:P:=P.d (D.agg (Z7::Z7::Z7::zG::Z96))
def Z9a(ae:P×List (Nat×En)->Prop):Prop:=ae (P.cT [Z97,P.d V4],[])
def Z99(r:Int)(v:List Int)(m:List ak):S:=S.mk 50 [ZF r,kY,(6,P.d Z7),(7,Zk v),(21,P.sl 3 0 (dA m)),(22,Cl m),(23,P.d Z7)] (Wk m)
def Z98(ae:P×List (Nat×En)->Prop):Prop:=ae (P.cT (Z97::ZX),[])
theorem qjH(l:List ak)(r:Int)(ae:P×List (Nat×En)->Prop):(bif Z6 r then Z98 ae else bif ZY r then Z98 ae else∃(au:List ak),rn l au/\Zx/\jP au/\ ∀(v:List Int),v=iv (aC au)-> ∃(eX:List ak),rn l eX/\Zx/\jP eX/\ ∀(m:List ak),m=aC eX-> ∃(bY:Int) (cI:List Int) (bO:List ak),Z99 r v m=Z99 bY cI bO/\gi bO/\ ∀(t:Int),t=mY bO-> ∃(v:List Int) (r:Int),Zw cI bY v r/\Zx/\wW v/\ ∀(n:Int),n=eB v r->bif Zj n then bif Zj t then bif decide (max (t+(1:Int)) (n+(1:Int))>Z1) then Z9a ae else Z9b t ae bY n cI else False else False)=(aJ [(30,nE),(27,hHv),(31,vo)] [(5,ah (aL 12 5) gHn)] 12 [bC l,iD r] []) ae:=by kernel_rfl
def hHn:bm:=λps R ae=> ∃l r,ps=[bC l,iD r]/\R=[]/\jP l/\ ∀g e,g=nD (aC l) r->e=rR (aC l) r->ae (.cT [.d (aQ g),iD e],[])
abbrev qhu(m:List ak)(v:List Int)(i:Int):S:=⟨41,[(0,.sl 0 0 m.length),(3,vD v),(4,iD i)],[(0,⟨0,none,kV false m⟩)]⟩
def vF:bm:=λps R ae=> ∃v r n,ps=[vD v,iD r,iD n]/\R=[]/\(v.length<=1000000/\1<=r/\r<=16)/\ ∀w,w=bb (e8 v r n)->ae (.cT [vD w,iD 0],[])
def Uf(y9:List Int)(r:Int):Prop:=wW y9/\(1:Int)<=r/\r<=(16:Int)
def Ug(y9:List Int)(r:Int)(cz:Int):List P:=Zk y9::P.d (Zt r)::Zv cz
theorem Uh(m:List ak)(v:List Int)(i:Int)(ae:PX×S->Prop):(bif xx i m then bif ki i m then bif iA i m then bif cK m i then bif ki i m then bif iA i m then bif cK m i then∃(cI:List Int) (r:Int),[Zk v,P.d (my m i)]=Zk cI::Zv r/\Zx/\wW cI/\ ∀(n:Int),n=eB cI r->bif ki i m then bif iA i m then bif cK m i then∃(y9:List Int) (r:Int) (cz:Int),[Zk v,P.d (my m i),P.d (D.int .i64 (max (xw m i) n))]=Ug y9 r cz/\Zx/\Uf y9 r/\ ∀(w:List Int),w=bb (e8 y9 r cz)->bif Zj i then ae (PX.normal,S.mk 41 (lW m::(3,Zk w)::ua i) (ud m)) else False else False else False else False else False else False else False else False else False else False else ae (PX.exit 0,S.mk 41 [(3,Zk v)] []))=(aD [(13,vo),(46,vF)] [] 28 4 (qhu m v i)) ae:=by kernel_rfl
abbrev qer(m:List ak):S:=⟨41,[(0,.sl 0 0 m.length),(3,.sl 1 0 0),(4,iD 0)],[(0,⟨0,none,kV false m⟩),(1,⟨0,none,Ow false []⟩)]⟩
def Z9g(m:List ak):P:=P.d (D.int .i64 (D.aj (D.ar (D.nth (cr m) 0) 1)))
def Z9f(m:List ak):Bool:=decide (0<eD m)
def Z9e(m:List ak):Bool:=decide ((0:Int)<=(0:Int)/\(0:Int)<gX m)
theorem Ui(m:List ak)(ae:PX×S->Prop):(bif decide ((0:Int)<gX m) then bif Z9e m then bif Z9f m then bif cx PR (34:TypeId) (D.nth (cr m) 0) then bif Z9e m then bif Z9f m then bif cx PR (34:TypeId) (D.nth (cr m) 0) then∃(v:List Int) (r:Int),[P.d zG,Z9g m]=Zk v::Zv r/\Zx/\wW v/\ ∀(n:Int),n=eB v r->bif Z9e m then bif Z9f m then bif cx PR (34:TypeId) (D.nth (cr m) 0) then∃(v:List Int) (r:Int) (cz:Int),[P.d zG,Z9g m,P.d (D.int .i64 (max (D.aj (D.ar (D.nth (cr m) 0) 2)) n))]=Ug v r cz/\Zx/\Uf v r/\ ∀(w:List Int),w=bb (e8 v r cz)->ae (PX.normal,S.mk 41 [lW m,(3,Zk w),(4,P.d ZR)] (ud m)) else False else False else False else False else False else False else False else False else False else ae (PX.exit 0,S.mk 41 [(3,ZQ)] ZU))=(aD [(13,vo),(46,vF)] [] 28 4 (qer m)) ae:=by kernel_rfl
def qes:S->K (PX×S):=λst ae=> ∃m,st=qer m/\gi m/\(∀v,v=iv m->ae (.exit 0,⟨41,[(3,vD v)],[]⟩))/\(iv m=[]->ae (.exit 0,⟨41,[(3,.sl 0 0 0)],[(0,⟨0,none,Ow false []⟩)]⟩))
def Z9h(m:List ak):S:=S.mk 41 (lW m::(3,uI)::JU) [uF m,(1,ZT)]
theorem qhv(l:List ak)(ae:P×List (Nat×En)->Prop):(∃(au:List ak),rn l au/\Zx/\jP au/\ ∀(m:List ak),m=aC au-> ∃(bO:List ak),Z9h m=Z9h bO/\gi bO/\(∀(v:List Int),v=iv bO->ae (Zk v,[]))/\(iv bO=[]->ae (ZQ,ZU)))=(aJ [(40,nE)] [(4,ah (aL 28 4) qes)] 28 [bC l] []) ae:=by kernel_rfl
def Uj:bm:=λps R ae=> ∃l,ps=[bC l]/\R=[]/\jP l/\(∀v,v=iv (aC l)->ae (vD v,[]))/\(iv (aC l)=[]->ae (.sl 0 0 0,[(0,⟨0,none,Ow false []⟩)]))
theorem Ox{g:ak}(h:cE g=true):1<=g.s.2/\g.s.2<=16/\1<=g.s.1/\g.s.1<=1099511627776/\1<=g.n/\g.n<=1099511627776:=by unfold cE V5 at h;simp only[zab,uZ,zai] at h;omega
theorem nI{l:List ak}(h:l.length<=1000000):gi (aC l):=by have:=cF l;exact⟨by omega,λg hg=>Ox (sF g hg)⟩
theorem gi.sub{m k:List ak}(h:gi m)(hs: ∀g∈k,g∈m)(hl:k.length<=1000000):gi k:=⟨hl,λg hg=>h.2 g (hs g hg)⟩
theorem qal(v:List Int)(i:Nat)(h:i<v.length):D.nth (a8 v) i= .int .i64 (v.getD i 0):=by rw[a8,ay _ _ _ h,eb h]
theorem qam(v:List Int)(i:Nat)(n:Int):(a8 v).set i (.int .i64 n)=a8 (v.set i n):=by simp[a8,zb1]
section
variable{X:XF}
theorem Uk:FD X 45 Ei:=Lk.weaken λps R ae h=>by obtain⟨v,rfl,rfl,hs,hp⟩:=h;exact⟨v,rfl,rfl,hs,hp _ rfl⟩
theorem Mb:FD X 46 vF:=XJ.weaken λps R ae h=>by obtain⟨v,r,n,rfl,rfl,⟨hs,h1,h2⟩,hp⟩:=h;exact⟨v,r,n,rfl,rfl,hs,λh=>absurd ⟨h1,h2⟩ h,λ_=>hp _ rfl⟩
theorem qet:LD X 27 3 (ah (aL 27 3) gHv):=LD.idx (H:=[]) (hk:=[]) (by kernel_rfl) (by kernel_rfl) .nil .nil
 (A:=List ak) (B:=List Int) (λm v i=>hvH m v i) (λm=>m.length) (λm i v=>gi m/\v=sG (m.take i))
 (λm x=>x=(.exit 0,⟨33,[(3,.sl 0 0 16)],[(0,⟨0,none,Ow false (sG m)⟩)]⟩))
 (by
  rintro m v i ae h0 bR aY ⟨hr,hv⟩ hn ho
  (rw[<-qbP];delta ZD cr kz sP Zg fJ xw Zn dA gX Cl mZ Z8V Za Z9 Zj Hj cK eD iA ki xx)
  have e1:D.nth (m.map aQ) i.toNat=aQ m[i.toNat]:=ay _ _ _ aY;have hg:=hr.2 _ (zas aY);have IE:=hr.1;have jY:=λ(h1:1<=(m[i.toNat]'aY).s.2) (h2:(m[i.toNat]'aY).s.2<=16)=>Ss (l:=m.take i.toNat) (g:=m[i.toNat]'aY) h1 h2;rw[<-zag aY,<-hv] at jY;rw[e1];generalize m[i.toNat]=g at hg jY;have Qg:v.length=16:=by rw[hv,jJ]
  have c1:D.aj (D.ar (aQ g) 1)=g.s.2:=rfl;have c2:D.aj (D.ar (aQ g) 2)=g.n:=rfl;rw[c1,c2,qal v _ (by omega)];have w1: ∀a b:Int,D.aV (D.int .i64 a) [D.int .i64 b]= .int .i64 b:=λ_ _=>rfl;have v1: ∀a:Int,D.aj (.int .i64 a)=a:=λ_=>rfl;rw[v1,w1,qam,jY hg.1 hg.2.1];have jX:(-9223372036854775808:Int)<=g.s.2-1/\g.s.2-1<=9223372036854775807:=by omega
  have cm:(0:Int)<=g.s.2-1/\g.s.2-1<((16:Nat):Int):=by omega
  have jt:(g.s.2-1).toNat<(a8 v).length:=by simp[a8];omega
  refine bz bR (ao ⟨h0,bR⟩ (ao (by simpa using aY) (aq (cY _) (ao jX (ao jX (ao cm (ao jt (aq (A7 _) (ao cm (ao jt (aq (A7 _) (ao (by omega) (hn _ ⟨hr,rfl⟩))))))))))))))
 (by
  rintro m v i ae hi ⟨hr,hv⟩ ho
  (rw[<-qbP];delta ZD cr kz sP Zg fJ xw Zn dA gX Cl mZ Z8V Za Z9 Zj Hj cK eD iA ki xx)
  refine kA (by omega) (ho _ (λh=>by cases h) ?_);rw[hv,zaj])
 (by rintro s ae ⟨m,rfl,hs,hp⟩;refine⟨m,_,rfl,⟨hs,Sv.symm⟩,?_⟩;rintro x rfl;exact hp _ rfl)
theorem qhw:FD X 27 hHv:=FD.mk (H:=[(30,nE),(45,Ei)]) (hk:=[(3,ah (aL 27 3) gHv)]) (by kernel_rfl) (.cons LJ (.cons Uk .nil)) (.cons qet .nil) (by
 intro ps R ae hh;obtain⟨l,rfl,rfl,hs,hp⟩:=hh
 (rw[<-qjG];delta Zk wW ZW cr kz sP Z7 Z8Q dA gX Cl mZ Z8V Z90 Zx cS rn)
 refine⟨l,rfl,rfl,hs,λm hm=>⟨m,rfl,by rw[hm];exact nI hs.1,λv hv=>⟨v,?_,rfl,?_,λw hw=>hp w ?_⟩⟩⟩
 ·have e:List.take 16 (a8 v)=a8 v:=zah (by simp[a8,hv,jJ]);rw[e]
 ·rw[hv,jJ];omega
 rw[hw,hv,hm];rfl)
theorem zH{m:List ak}{i:Nat}(h:i<m.length):mY (m.take (i+1))=max (mY (m.take i)) m[i].s.1:=by rw[zag h,Sx]
theorem qeu:LD X 12 5 (ah (aL 12 5) gHn):=LD.idx (H:=[]) (hk:=[]) (by kernel_rfl) (by kernel_rfl) .nil .nil
 (A:=Int×List Int×List ak) (B:=Int) (λa t i=>hnH a.1 a.2.1 a.2.2 t i) (λa=>a.2.2.length) (λa i t=>gi a.2.2/\t=mY (a.2.2.take i))
 (λa x=>x=(.exit 0,⟨50,[(1,iD a.1),(4,.ref 0 0 0),(6,iD (mY a.2.2)),(7,vD a.2.1)],[(0,⟨0,none,.box 34 [iD 0,iD 0,iD 0,.sl 1 0 0,iD 0,iD 0,.sl 2 0 0]⟩),(1,⟨0,none,Ow false []⟩),(2,⟨0,none,.arr 54 false []⟩)]⟩))
 (by
  rintro⟨r,v,m⟩ t i ae h0 bR aY ⟨hr,ht⟩ hn ho
  try dsimp only at*
  (rw[<-qbQ];delta Z92 ZT uI Z7 Z91 Z94 Zt ZK cr kz Wk Zn dA gX Cl Zk Zg fJ bT kY ZF Za Z9 Zj cK eD iA ki xx)
  have e1:D.nth (m.map aQ) i.toNat=aQ m[i.toNat]:=ay _ _ _ aY;have IE:=hr.1;have zZ:=zH aY;rw[e1];generalize m[i.toNat]=g at zZ;refine bz bR (ao ⟨h0,bR⟩ (ao (by simpa using aY) (aq (cY _) (ao (by omega) (hn _ ⟨hr,?_⟩)))));rw[zZ,<-ht];rfl)
 (by
  rintro⟨r,v,m⟩ t i ae hi ⟨hr,ht⟩ ho
  try dsimp only at*
  (rw[<-qbQ];delta Z92 ZT uI Z7 Z91 Z94 Zt ZK cr kz Wk Zn dA gX Cl Zk Zg fJ bT kY ZF Za Z9 Zj cK eD iA ki xx)
  refine kA (by omega) (ho _ (λh=>by cases h) ?_);rw[ht,zaj];rfl)
 (by rintro s ae ⟨r,v,m,rfl,hs,hp⟩;refine⟨(r,v,m),0,rfl,⟨hs,rfl⟩,?_⟩;rintro x rfl;exact hp _ rfl)
theorem qan:LD X 28 4 (ah (aL 28 4) qes):=LD.idx (H:=[(13,vo),(46,vF)]) (hk:=[]) (by kernel_rfl) (by kernel_rfl) (.cons JO (.cons Mb .nil)) .nil
 (A:=List ak) (B:=Option (List Int)) (λm v i=>match v with |none=>qer m |some v=>qhu m v i) (λm=>m.length) (λm i v=>gi m/\match v with |none=>i=0 |some v=>v=iv (m.take i))
 (λm x=>(∃v,v=iv m/\x=(.exit 0,⟨41,[(3,vD v)],[]⟩))\/(iv m=[]/\x=(.exit 0,⟨41,[(3,.sl 0 0 0)],[(0,⟨0,none,Ow false []⟩)]⟩)))
 (by
  rintro m v i ae h0 bR aY ⟨hr,hv⟩ hn ho;have hg:=hr.2 _ (zas aY);have IE:=hr.1;have hw:=λ(h1:1<=(m[i.toNat]'aY).s.2) (h2:(m[i.toNat]'aY).s.2<=16)=>NV (l:=m.take i.toNat) (g:=m[i.toNat]'aY) h1 h2;rw[<-zag aY] at hw;have e1:D.nth (m.map aQ) i.toNat=aQ m[i.toNat]:=ay _ _ _ aY;cases v with
  |none=>
   dsimp only at*
   have oU:i=0:=by omega
   subst oU;have hv0:iv (m.take (0:Int).toNat)=[]:=by rfl
   rw[hv0] at hw
   (rw[<-Ui];delta ZT ZU ZQ cr kz uF ud ZR dA kW lW wW Uf Zt Zv Zk Ug Zx Z9g zG eD Z9f gX Z9e)
   rw[show D.nth (m.map aQ) 0=aQ m[(0:Int).toNat] from e1];generalize m[(0:Int).toNat]=g at hg hw;refine bz (by omega) (ao ⟨by omega,by omega⟩ (ao (by simpa using aY) (aq (cY _) (ao ⟨by omega,by omega⟩ (ao (by simpa using aY) (aq (cY _) ⟨[],g.s.2,rfl,rfl,by simp,λn HL=>ao ⟨by omega,by omega⟩ (ao (by simpa using aY) (aq (cY _) ⟨[],g.s.2,_,rfl,rfl,⟨by simp,hg.1,hg.2.1⟩,λw hww=> ?_⟩))⟩))))));refine hn (some w) ⟨hr,?_⟩;show w=_;rw[hww,HL];exact hw hg.1 hg.2.1
  |some v=>
   dsimp only at*
   (rw[<-Uh];delta cr kz uF ud Zn ua dA kW lW Za Z9 Zj wW Uf Zt Zv Zk Ug Zg fJ xw Zx my cK eD iA gX ki xx;rw[e1])
   rw[<-hv] at hw;generalize m[i.toNat]=g at hg hw;have Qg:v.length<=1000000:=by rw[hv];have:=qi (m.take i.toNat);omega
   refine bz (by omega) (ao ⟨by omega,by omega⟩ (ao (by simpa using aY) (aq (cY _) (ao ⟨by omega,by omega⟩ (ao (by simpa using aY) (aq (cY _) ⟨v,g.s.2,rfl,rfl,Qg,λn HL=>ao ⟨by omega,by omega⟩ (ao (by simpa using aY) (aq (cY _) ⟨v,g.s.2,_,rfl,rfl,⟨Qg,hg.1,hg.2.1⟩,λw hww=>ao (by omega) ?_⟩))⟩))))));refine hn (some w) ⟨hr,?_⟩;show w=_;rw[hww,HL];exact hw hg.1 hg.2.1)
 (by
  rintro m v i ae hi ⟨hr,hv⟩ ho;cases v with
  |none=>
   dsimp only at*
   have:m=[]:=zau hv;subst this
   (rw[<-Ui];delta ZT ZU ZQ cr kz uF ud ZR dA kW lW wW Uf Zt Zv Zk Ug Zx Z9g zG eD Z9f gX Z9e)
   exact kA (by simp) (ho _ (λh=>by cases h) (.inr ⟨rfl,rfl⟩))
  |some v=>
   dsimp only at*
   (rw[<-Uh];delta cr kz uF ud Zn ua dA kW lW Za Z9 Zj wW Uf Zt Zv Zk Ug Zg fJ xw Zx my cK eD iA gX ki xx)
   refine kA (by omega) (ho _ (λh=>by cases h) (.inl ⟨v,?_,rfl⟩));rw[hv,zaj])
 (by
  rintro s ae ⟨m,rfl,hs,h1,h2⟩;refine⟨m,none,rfl,⟨hs,rfl⟩,?_⟩;rintro x (⟨v,h3,rfl⟩| ⟨h3,rfl⟩)
  ·exact h1 v h3
  exact h2 h3)
theorem qbR:FD X 28 Uj:=FD.mk (H:=[(40,nE)]) (hk:=[(4,ah (aL 28 4) qes)]) (by kernel_rfl) (.cons qn .nil) (.cons qan .nil) (by
 intro ps R ae hh;obtain⟨l,rfl,rfl,hs,h1,h2⟩:=hh
 (rw[<-qhv];delta ZT ZU ZQ Zk cr kz uF Z7 JU uI dA kW lW Z9h Zx cS rn)
 exact⟨l,rfl,rfl,hs,λm hm=>⟨m,rfl,by rw[hm];exact nI hs.1,λv hv=>h1 v (by rw[hv,hm]),λh=>h2 (by rw[<-hm];exact h)⟩⟩)
end
abbrev qev:Obj:= .box 34 [iD 0,iD 0,iD 0,.sl 1 0 0,iD 0,iD 0,.sl 2 0 0]
abbrev qew(l:List ak)(r:Int)(m:List ak)(t i:Int):S:=⟨54,[(0,bC l),(1,iD r),(4,.ref 0 0 0),(6,iD t),(7,.sl 3 0 m.length),(8,iD i)],[(0,⟨0,none,qev⟩),(1,⟨0,none,Ow false []⟩),(2,⟨0,none,.arr 54 false []⟩),(3,⟨0,none,kV false m⟩)]⟩
theorem Ul(l:List ak)(r:Int)(m:List ak)(t i:Int)(ae:PX×S->Prop):(bif xx i m then bif ki i m then bif iA i m then bif cK m i then bif Zj i then ae (PX.normal,S.mk 54 (fE l::ZF r::kY::(6,P.d (D.int .i64 (max t (D.aj (D.ar (fJ m i) 0)))))::(7,P.sl 3 0 (dA m))::oL i) (Wk m)) else False else False else False else False else ae (PX.exit 0,S.mk 54 (fE l::ZF r::kY::Cj t) Z94))=(aD [] [] 23 6 (qew l r m t i)) ae:=by kernel_rfl
def qex:S->K (PX×S):=λst ae=> ∃l r m,st=qew l r m 0 0/\gi m/\ ∀t,t=mY m->ae (.exit 0,⟨54,[(0,bC l),(1,iD r),(4,.ref 0 0 0),(6,iD t)],[(0,⟨0,none,qev⟩),(1,⟨0,none,Ow false []⟩),(2,⟨0,none,.arr 54 false []⟩)]⟩)
def Z9i(l:List ak)(r:Int)(m:List ak):S:=S.mk 54 (fE l::ZF r::kY::(6,P.d Z7)::(7,P.sl 3 0 (dA m))::Ec) (Wk m)
theorem qhx(l:List ak)(r:Int)(ae:P×List (Nat×En)->Prop):(bif Z6 r then Z98 ae else bif ZY r then Z98 ae else∃(au:List ak),rn l au/\Zx/\jP au/\ ∀(m:List ak),m=aC au-> ∃(eX:List ak) (bY:Int) (bO:List ak),Z9i l r m=Z9i eX bY bO/\gi bO/\ ∀(t:Int),t=mY bO-> ∃(l:List ak),rn eX l/\Zx/\jP l/\(∀(v:List Int),v=iv (aC l)-> ∃(cI:List Int) (r:Int),Zw v bY cI r/\Zx/\wW cI/\ ∀(n:Int),n=eB cI r->bif Zj n then bif decide (t>=Z1) then Z9a ae else bif decide (n+(1:Int)>Z1) then Z9a ae else Z9b t ae bY n v else False)/\(iv (aC l)=[]-> ∃(v:List Int) (r:Int),P.d zG::Zv bY=Zk v::Zv r/\Zx/\wW v/\ ∀(n:Int),n=eB v r->bif Zj n then bif decide (t>=Z1) then Z9a ae else bif decide (n+(1:Int)>Z1) then Z9a ae else bif Zj t then ae (P.cT (P.d (D.agg (Zn t::Zt bY::Zn n::zG::Z96))::mr),[]) else False else False))=(aJ [(40,nE),(28,Uj),(13,vo)] [(6,ah (aL 23 6) qex)] 23 [bC l,iD r] []) ae:=by kernel_rfl
theorem qV{l:List ak}{r:Int}(h: ¬(1<=r/\r<=16)):rR l r=1:=by unfold rR;rw[zao h]
theorem jj{l:List ak}{r:Int}(h:rR l r≠0):nD l r=noG:=by unfold nD;rw[zal h]
theorem Hk{l:List ak}{r:Int}(h:1<=r/\r<=16):rR l r=if max (mY l+1) (DT l r+1)>1099511627776 then 2 else 0:=by unfold rR;rw[zal (by simpa using h)]
section
variable{X:XF}
theorem qhy:FD X 12 hHn:=FD.mk (H:=[(30,nE),(27,hHv),(31,vo)]) (hk:=[(5,ah (aL 12 5) gHn)]) (by kernel_rfl) (.cons LJ (.cons qhw (.cons qbx .nil))) (.cons qeu .nil) (by
 intro ps R ae hh;obtain⟨l,r,rfl,rfl,hs,hp⟩:=hh
 (rw[<-qjH];delta Z7 mr Z96 Zt Zn Za Z9 Zj Z9b V4 zG Z97 Z9a Z1 wW Zv Zk Zw cr kz Z92 ZT uI Z91 Wk dA gX Cl bT kY ZF Z99 Zx cS rn ZY ZR ZX Z98 Z6)
 have Um: ¬(1<=r/\r<=16)->ae (.cT [.d (aQ noG),iD 1],[]):=λh=>hp _ _ (jj (by rw[qV h];omega)).symm (qV h).symm;refine b7 (λh1=>Um (by omega)) λh1=>b7 (λh2=>Um (by omega)) λh2=>⟨l,rfl,rfl,hs,λv hv=>⟨l,rfl,rfl,hs,λm hm=>⟨r,v,m,rfl,by rw[hm];exact nI hs.1,λt ht=>⟨v,r,rfl,rfl,?_,λn hn=> ?_⟩⟩⟩⟩
 ·rw[hv];have:=qi (aC l);omega
 have rT:=nI hs.1;have z6:=qj m;have ht3:mY m<=1099511627776:=DV (by omega) m λg hg=>by rw[hm] at hg;exact(rT.2 g hg).2.2.2.1
 have Mz:n=DT m r:=by rw[hn,hv,qO _ _ (by omega) (by omega),hm]
 have hn3:0<=DT m r:=oH m r;have hn4:DT m r<=1099511627776:=DU m 0 (by omega) λg hg=>by rw[hm] at hg;exact(rT.2 g hg).2.2.2.2.2
 have hE:=Hk (l:=m) (r:=r) ⟨by omega,by omega⟩;rw[<-hm] at hp;refine ao (by omega) (ao (by omega) (b7 (λh3=> ?_) λh3=>ao (by omega) ?_))
 ·rw[zao (by rw[<-ht,<-Mz];exact h3)] at hE;exact hp _ _ (jj (by rw[hE];omega)).symm hE.symm
 rw[zal (by rw[<-ht,<-Mz];exact h3)] at hE;have hX:nD m r=GS m r:=by unfold nD;rw[zao hE]
 have:=hp _ _ rfl rfl;rw[hX,hE] at this;rw[ht,Mz,hv,<-hm];exact this)
theorem qao:LD X 23 6 (ah (aL 23 6) qex):=LD.idx (H:=[]) (hk:=[]) (by kernel_rfl) (by kernel_rfl) .nil .nil
 (A:=List ak×Int×List ak) (B:=Int) (λa t i=>qew a.1 a.2.1 a.2.2 t i) (λa=>a.2.2.length) (λa i t=>gi a.2.2/\t=mY (a.2.2.take i))
 (λa x=>x=(.exit 0,⟨54,[(0,bC a.1),(1,iD a.2.1),(4,.ref 0 0 0),(6,iD (mY a.2.2))],[(0,⟨0,none,qev⟩),(1,⟨0,none,Ow false []⟩),(2,⟨0,none,.arr 54 false []⟩)]⟩))
 (by
  rintro⟨l,r,m⟩ t i ae h0 bR aY ⟨hr,ht⟩ hn ho
  try dsimp only at*
  (rw[<-Ul];delta Z92 ZT uI Z7 Z91 Z94 Zt ZK Cj cr kz Wk Zn oL dA Zg fJ bT kY ZF cS fE Za Z9 Zj cK eD iA gX ki xx)
  have e1:D.nth (m.map aQ) i.toNat=aQ m[i.toNat]:=ay _ _ _ aY;have IE:=hr.1;have zZ:=zH aY;rw[e1];generalize m[i.toNat]=g at zZ;refine bz bR (ao ⟨h0,bR⟩ (ao (by simpa using aY) (aq (cY _) (ao (by omega) (hn _ ⟨hr,?_⟩)))));rw[zZ,<-ht];rfl)
 (by
  rintro⟨l,r,m⟩ t i ae hi ⟨hr,ht⟩ ho
  try dsimp only at*
  (rw[<-Ul];delta Z92 ZT uI Z7 Z91 Z94 Zt ZK Cj cr kz Wk Zn oL dA Zg fJ bT kY ZF cS fE Za Z9 Zj cK eD iA gX ki xx)
  refine kA (by omega) (ho _ (λh=>by cases h) ?_);rw[ht,zaj];rfl)
 (by rintro s ae ⟨l,r,m,rfl,hs,hp⟩;refine⟨(l,r,m),0,rfl,⟨hs,rfl⟩,?_⟩;rintro x rfl;exact hp _ rfl)
theorem qhz:FD X 23 hHn:=FD.mk (H:=[(40,nE),(28,Uj),(13,vo)]) (hk:=[(6,ah (aL 23 6) qex)]) (by kernel_rfl) (.cons qn (.cons qbR (.cons JO .nil))) (.cons qao .nil) (by
 intro ps R ae hh;obtain⟨l,r,rfl,rfl,hs,hp⟩:=hh
 (rw[<-qhx];delta Z7 mr Z96 Zt Zn Zk Zv zG Za Z9 Zj Z9b V4 Z97 Z9a Z1 wW Zw cr kz Z92 ZT uI Z91 Wk Ec dA bT kY ZF cS fE Z9i Zx rn ZY ZR ZX Z98 Z6)
 have Um: ¬(1<=r/\r<=16)->ae (.cT [.d (aQ noG),iD 1],[]):=λh=>hp _ _ (jj (by rw[qV h];omega)).symm (qV h).symm;refine b7 (λh1=>Um (by omega)) λh1=>b7 (λh2=>Um (by omega)) λh2=>⟨l,rfl,rfl,hs,λm hm=>⟨l,r,m,rfl,by rw[hm];exact nI hs.1,λt ht=>⟨l,rfl,rfl,hs,λv hv=>⟨v,r,rfl,rfl,?_,λn hn=> ?_⟩,λhv0=>⟨[],r,rfl,rfl,by simp,λn hn=> ?_⟩⟩⟩⟩
 all_goals
  have rT:=nI hs.1;have z6:=qj m;have ht3:mY m<=1099511627776:=DV (by omega) m λg hg=>by rw[hm] at hg;exact(rT.2 g hg).2.2.2.1
  have hn3:0<=DT m r:=oH m r;have hn4:DT m r<=1099511627776:=DU m 0 (by omega) λg hg=>by rw[hm] at hg;exact(rT.2 g hg).2.2.2.2.2
  have hE:=Hk (l:=m) (r:=r) ⟨by omega,by omega⟩;rw[<-hm] at hp
 ·rw[hv];have:=qi (aC l);omega
 all_goals
  have Mz:n=DT m r:=by first |rw[hn,hv,qO _ _ (by omega) (by omega),hm]|rw[hn,<-hv0,qO _ _ (by omega) (by omega),hm]
  refine ao (by omega) (b7 (λh4=> ?_) λh4=>b7 (λh5=> ?_) λh5=>ao (by omega) ?_)
 ·rw[zao (by omega)] at hE;exact hp _ _ (jj (by rw[hE];omega)).symm hE.symm
 ·rw[zao (by omega)] at hE;exact hp _ _ (jj (by rw[hE];omega)).symm hE.symm
 ·rw[zal (by omega)] at hE;have hX:nD m r=GS m r:=by unfold nD;rw[zao hE]
  have:=hp _ _ rfl rfl;rw[hX,hE] at this;rw[ht,Mz,hv,<-hm];exact this
 ·rw[zao (by omega)] at hE;exact hp _ _ (jj (by rw[hE];omega)).symm hE.symm
 ·rw[zao (by omega)] at hE;exact hp _ _ (jj (by rw[hE];omega)).symm hE.symm
 rw[zal (by omega)] at hE;have hX:nD m r=GS m r:=by unfold nD;rw[zao hE]
 have:=hp _ _ rfl rfl;rw[hX,hE] at this;unfold GS at this;rw[hm,hv0,<-hm] at this;rw[ht,Mz];exact this)
end
def ltA(a b:ak):Bool:=l7 a.s b.s
abbrev roK(m out:List ak)(n:Nat)(r i k:Int):S:=⟨69,[(0,.sl 0 0 m.length),(1,iD r),(5,.sl 1 0 n),(6,iD i),(7,iD k)],[(0,⟨0,none,kV false m⟩),(1,⟨0,none,kV false out⟩)]⟩
def Z9m(ae:PX×S->Prop)(m:List ak)(r:Int)(n:Nat)(i:Int)(out:List ak):Prop:=ae (PX.exit 2,S.mk 69 (lW m::ZF r::H0 n::Cj i) [uF m,sP out])
def Ps(out:List ak)(k:Int):D:=D.nth (cr out) (Zc k)
def Z9k(out:List ak)(k:Int):List D:=List.set (cr out) (Zg k) (D.aV (D.agg (wB out k)) [D.int .i64 (D.aj (D.ar (Ps out k) 0)),D.int .i64 (D.aj (D.ar (Ps out k) 1)),D.int .i64 (D.aj (D.ar (Ps out k) 2)),D.sl 1 (D.dy (D.ar (Ps out k) 3)),D.int .i64 (D.aj (D.ar (Ps out k) 4)),D.int .i64 (D.aj (D.ar (Ps out k) 5)),D.sl 18 (D.dy (D.ar (Ps out k) 6))])
def Z9l(out:List ak)(k:Int):D:=D.nth (Z9k out k) (Zc k)
theorem qhA(m out:List ak)(n:Nat)(r i k:Int)(ae:PX×S->Prop):(bif Zr k then bif lY k n then bif iA k out then bif cK out k then bif Zb k then bif uJ k n then bif decide (Zc k<eD out) then bif cx PR (34:TypeId) (Ps out k) then∃(a:aw) (b:aw),[P.d (sI out k),P.d (D.agg [D.int .i64 (D.aj (D.ar (Ps out k) 0)),D.int .i64 (D.aj (D.ar (Ps out k) 1))])]=AY a b/\Zx/\ ∀(bY:Bool),bY=l7 a b->bif bY then bif Zb k then bif Zb k then bif uJ k n then bif decide (Zc k<eD out) then bif cx PR (34:TypeId) (Ps out k) then bif lY k n then bif iA k out then bif cK out k then bif lY k n then bif iA k out then bif cK out k then bif uJ k n then bif decide (Zc k<List.length (Z9k out k)) then bif cx PR (34:TypeId) (Z9l out k) then bif Zb k then ae (PX.normal,S.mk 69 [lW m,ZF r,H0 n,ZK i,(7,Zs k)] [uF m,(1,En.mk 0 none (Obj.arr (34:TypeId) false (List.set (Z9k out k) (Zc k) (D.aV (D.agg [D.int .i64 (D.aj (D.ar (Z9l out k) 0)),D.int .i64 (D.aj (D.ar (Z9l out k) 1)),D.int .i64 (D.aj (D.ar (Z9l out k) 2)),D.sl 1 (D.dy (D.ar (Z9l out k) 3)),D.int .i64 (D.aj (D.ar (Z9l out k) 4)),D.int .i64 (D.aj (D.ar (Z9l out k) 5)),D.sl 18 (D.dy (D.ar (Z9l out k) 6))]) (wB out k)))))]) else False else False else False else False else False else False else False else False else False else False else False else False else False else False else False else Z9m ae m r n i out else False else False else False else False else False else False else False else Z9m ae m r n i out)=(aD [(14,nC)] [] 41 9 (roK m out n r i k)) ae:=by kernel_rfl
abbrev roH(m out:List ak)(r i:Int):S:=⟨69,[(0,.sl 0 0 m.length),(1,iD r),(5,.sl 1 0 out.length),(6,iD i)],[(0,⟨0,none,kV false m⟩),(1,⟨0,none,kV false out⟩)]⟩
def qey:S->K (PX×S):=λst ae=> ∃m o x n r i k,st=roK m (o++[x]) n r i k/\(k=(o.length:Int)/\n=o.length+1/\o.length<=1000000)/\ ∀o',o'=cJ ltA o x->ae (.exit 2,roH m o' r i)
def Z9n(i:Int)(ae:PX×S->Prop)(m:List ak)(r:Int)(out:List ak):Prop:=bif Zj i then ae (PX.normal,S.mk 69 (lW m::ZF r::(5,mZ out)::ZA i) [uF m,sP out]) else False
theorem qbS(m out:List ak)(r i:Int)(ae:PX×S->Prop):(bif xx i m then bif ki i m then bif iA i m then bif cK m i then bif D.aj (D.ar (fJ m i) 1) !=r then Z9n i ae m r out else bif ki i m then bif iA i m then bif cK m i then bif Pm out m i then bif decide (Z9<=(↑(Cb out m i):Int)-(1:Int)/\(↑(Cb out m i):Int)-(1:Int)<=Za) then∃(bO:List ak) (o:List ak) (x:ak) (n:Nat) (bY:Int) (aI:Int) (k:Int),S.mk 69 [lW m,ZF r,(5,P.sl 1 0 (Cb out m i)),ZK i,(7,P.d (D.int .i64 ((↑(Cb out m i):Int)-(1:Int))))] [uF m,(1,Pk out m i)]=S.mk 69 [lW bO,ZF bY,H0 n,ZK aI,qU k] [uF bO,(1,En.mk 0 none (Obj.arr (34:TypeId) false (List.map aQ (o++[x]))))]/\(k=gX o/\n=dA o+1/\iR o)/\ ∀(o':List ak),o'=cJ ltA o x->Z9n aI ae bO bY o' else False else False else False else False else False else False else False else False else ae (PX.exit 0,S.mk 69 [(5,kW out)] (ud out)))=(aD [] [(9,ah (aL 41 9) qey)] 41 4 (roH m out r i)) ae:=by kernel_rfl
def rp(m:List ak)(r:Int):List ak:=cp ltA (m.filter λg=>g.s.2==r)
def qez:S->K (PX×S):=λst ae=> ∃m r,st=roH m [] r 0/\m.length<=1000000/\ ∀o,o=rp m r->ae (.exit 0,⟨69,[(5,.sl 0 0 o.length)],[(0,⟨0,none,kV false o⟩)]⟩)
def Z9o(m:List ak)(r:Int):S:=S.mk 69 (lW m::ZF r::Z7E) [uF m,(1,LI)]
theorem qjI(l:List ak)(r:Int)(ae:P×List (Nat×En)->Prop):(∃(au:List ak),rn l au/\Zx/\jP au/\ ∀(m:List ak),m=aC au-> ∃(bO:List ak) (bY:Int),Z9o m r=Z9o bO bY/\iR bO/\ ∀(o:List ak),o=rp bO bY->ae (kW o,ud o))=(aJ [(40,nE)] [(4,ah (aL 41 4) qez)] 41 [bC l,iD r] []) ae:=by kernel_rfl
def hRo:bm:=λps R ae=> ∃l r,ps=[bC l,iD r]/\R=[]/\jP l/\ ∀o,o=rp (aC l) r->ae (.sl 0 0 o.length,[(0,⟨0,none,kV false o⟩)])
theorem qv{m:List ak}{i:Nat}(h:i<m.length)(t:ak->Bool):(m.take (i+1)).filter t=(m.take i).filter t++(if t m[i]=true then [m[i]] else []):=by
 rw[zag h,zcp];congr 1;by_cases ht:t m[i]=true
 ·rw[zao ht];simp[ht]
 rw[zal ht];simp[ht]
section
variable{X:XF}
theorem qap:LD X 41 9 (ah (aL 41 9) qey):=LD.ins (H:=[(14,nC)]) (hk:=[]) (by kernel_rfl) (by kernel_rfl) (.cons vj .nil) .nil
 (A:=List ak×Int×Int×Nat) (α:=ak) (λa o k=>roK a.1 o a.2.2.2 a.2.1 a.2.2.1 k) ltA (λa=>a.2.2.2) (λ_=>True) (λa o=>(.exit 2,⟨69,[(0,.sl 0 0 a.1.length),(1,iD a.2.1),(5,.sl 1 0 a.2.2.2),(6,iD a.2.2.1)],[(0,⟨0,none,kV false a.1⟩),(1,⟨0,none,kV false o⟩)]⟩)) (λ_ _ h=>by cases h)
 (by
  rintro⟨m,r,i,n⟩ o k ae _ h0 EO lX hk hz bX dz
  try dsimp only at*
  subst EO
  (rw[<-qhA];delta cr kz sP uF Zt ZK Cj H0 ZF dA kW lW Z9m Zg fJ xw my nO wB Zs Zc Ps Z9k Z9l Zx gV gW qe mP AY sI eD uJ Za Z9 Zb cK iA lY Zr)
  refine b7 (λhp=> ?_) λhp=>hz (by omega);have fh:k.toNat-1<o.length:=by omega
  have e1:D.nth (o.map aQ) k.toNat=aQ o[k.toNat]:=ay _ _ _ hk;have e2:D.nth (o.map aQ) (k-1).toNat=aQ o[k.toNat-1]:=by rw[show(k-1).toNat=k.toNat-1 by omega];exact ay _ _ _ fh
  have bX:=bX hp;have dz:=dz hp;rw[e1,e2];have vB:=jg aQ o k.toNat o[k.toNat] o[k.toNat-1];have e3: ∀z,D.nth ((o.map aQ).set k.toNat z) (k-1).toNat=aQ o[k.toNat-1]:=λz=>by rw[show(k-1).toNat=k.toNat-1 by omega];unfold D.nth;rw[zac,zaR (by omega)];simp[fh]
  generalize o[k.toNat]=x at*
  generalize o[k.toNat-1]=y at*
  have w1: ∀x y:ak,D.aV (D.agg [D.int .i64 (D.aj (D.ar (aQ x) 0)),D.int .i64 (D.aj (D.ar (aQ x) 1)),D.int .i64 (D.aj (D.ar (aQ x) 2)),D.sl 1 (D.dy (D.ar (aQ x) 3)),D.int .i64 (D.aj (D.ar (aQ x) 4)),D.int .i64 (D.aj (D.ar (aQ x) 5)),D.sl 18 (D.dy (D.ar (aQ x) 6))]) [D.int .i64 (D.aj (D.ar (aQ y) 0)),D.int .i64 (D.aj (D.ar (aQ y) 1)),D.int .i64 (D.aj (D.ar (aQ y) 2)),D.sl 1 (D.dy (D.ar (aQ y) 3)),D.int .i64 (D.aj (D.ar (aQ y) 4)),D.int .i64 (D.aj (D.ar (aQ y) 5)),D.sl 18 (D.dy (D.ar (aQ y) 6))]=aQ y:=λ_ _=>rfl;rw[w1,e3,w1,show(k-1).toNat=k.toNat-1 by omega,vB];simp only[roK,zaa,zbb] at dz⊢;have vC:0<=k/\k<(o.length:Int):=⟨h0,by omega⟩
  have vE:0<=k-1/\k-1<(o.length:Int):=⟨by omega,by omega⟩
  have hf:(-9223372036854775808:Int)<=k-1/\k-1<=9223372036854775807:=by omega
  refine ao vC (ao hk (aq (cY _) (ao hf (ao vE (ao fh (aq (cY _) ⟨x.s,y.s,rfl,rfl,λr hr=>az (λh=> ?_) λh=>bX (by rw[<-h,hr];rfl)⟩))))));refine ao hf (ao hf (ao vE (ao fh (aq (cY _) (ao vC (ao hk (aq (cY _) (ao vC (ao hk (aq (cY _) (ao vE (ao fh (aq (cY _) (ao hf ?_))))))))))))));exact dz (by rw[<-h,hr];rfl))
 (by rintro s ae ⟨m,o,x,n,r,i,k,rfl,⟨hk,hn,ho⟩,hp⟩;refine⟨(m,r,i,n),o,x,k,rfl,hk,trivial,⟨hn.symm,ho⟩,?_⟩;have:=hp _ rfl;rw[roH,jK,<-hn] at this;exact this)
theorem qaq:LD X 41 4 (ah (aL 41 4) qez):=LD.idx (H:=[]) (hk:=[(9,ah (aL 41 9) qey)]) (by kernel_rfl) (by kernel_rfl) .nil (.cons qap .nil)
 (A:=List ak×Int) (B:=List ak) (λa o i=>roH a.1 o a.2 i) (λa=>a.1.length) (λa i o=>a.1.length<=1000000/\o=rp (a.1.take i) a.2)
 (λa x=>x=(.exit 0,⟨69,[(5,.sl 0 0 (rp a.1 a.2).length)],[(0,⟨0,none,kV false (rp a.1 a.2)⟩)]⟩))
 (by
  rintro⟨m,r⟩ o i ae h0 bR aY ⟨IE,ho⟩ hn bt
  try dsimp only at*
  (rw[<-qbS];delta cr kz uF ud dA kW iR gX Zt qU H0 Zg fJ xw my nO wB Pk ZK ZF lW Za Cb Z9 eD Pm sP Zn ZA mZ Zj Z9n cK iA ki xx)
  have lX:o.length<=i.toNat:=by rw[ho,rp,kX];refine zaG (zaU _ _) ?_;simp;omega
  have e2:D.nth (m.map aQ) i.toNat=aQ m[i.toNat]:=ay _ _ _ aY;have jQ:=qv aY (λg=>g.s.2==r);generalize m[i.toNat]=g at jQ e2;have t2:D.agg [D.int .i64 (D.aj (D.ar (aQ g) 0)),D.int .i64 (D.aj (D.ar (aQ g) 1)),D.int .i64 (D.aj (D.ar (aQ g) 2)),D.sl 1 (D.dy (D.ar (aQ g) 3)),D.int .i64 (D.aj (D.ar (aQ g) 4)),D.int .i64 (D.aj (D.ar (aQ g) 5)),D.sl 18 (D.dy (D.ar (aQ g) 6))]=aQ g:=rfl;have c1:D.aj (D.ar (aQ g) 1)=g.s.2:=rfl;rw[e2,t2,c1,cw];simp only[zaa,zap,zat,zaF];refine bz bR (ao ⟨h0,bR⟩ (ao aY (aq (cY _) (y7 (λh1=>ao (by omega) (hn _ ⟨IE,?_⟩)) λh1=>ao ⟨h0,bR⟩ (ao aY (aq (cY _) (aq ?_ (ao (by omega) ⟨m,o,g,o.length+1,r,i,((o.length+1:Nat):Int)-1,rfl,⟨by omega,rfl,by omega⟩,λo' gg=>ao (by omega) (hn _ ⟨IE,?_⟩)⟩))))))))
  ·rw[rp,jQ,zal (by simpa using h1),zbe];exact ho
  ·rw[zab];exact⟨by simp,ct (by omega) (by omega)⟩
  rw[rp,jQ,zao (by simpa using h1),sJ,gg,ho];rfl)
 (by
  rintro⟨m,r⟩ o i ae hi ⟨IE,ho⟩ bt
  try dsimp only at*
  (rw[<-qbS];delta cr kz uF ud dA kW iR gX Zt qU H0 Zg fJ xw my nO wB Pk ZK ZF lW Za Cb Z9 eD Pm sP Zn ZA mZ Zj Z9n cK iA ki xx)
  refine kA (by omega) (bt _ (λh=>by cases h) ?_);rw[ho,zaj])
 (by rintro s ae ⟨m,r,rfl,hs,hp⟩;refine⟨(m,r),[],rfl,⟨hs,rfl⟩,?_⟩;rintro x rfl;exact hp _ rfl)
theorem qhB:FD X 41 hRo:=FD.mk (H:=[(40,nE)]) (hk:=[(4,ah (aL 41 4) qez)]) (by kernel_rfl) (.cons qn .nil) (.cons qaq .nil) (by
 intro ps R ae hh;obtain⟨l,r,rfl,rfl,hs,hp⟩:=hh
 (rw[<-qjI];delta cr kz uF ud dA kW iR LI Z7 Ed uI Z7E Zt ZF lW Z9o Zx cS rn)
 have:=cF l;exact⟨l,rfl,rfl,hs,λm hm=>⟨m,r,rfl,by rw[hm];have:=hs.1;omega,λo ho=>hp o (by rw[ho,hm])⟩⟩)
theorem Hl{m:List ak}{r:Int}(hn:(m.map (·.s)).Nodup):(rp m r).reverse=zr m r:=by refine LC hn ((zcv _).trans (bZ _)) ?_;rw[zcd];exact qL mx (λg:ak=>g.s) _
end
abbrev bxN(n:Nat)(r:Int):Nat×En:=(n,⟨0,some n,.box 3 [iD r]⟩)
def mS(r:Int)(x:ak):Bool:=x.s.2 !=r
def Hm:bm:=λps R ae=> ∃(x:ak) (r:Int),ps=[.d (aQ x),.ref 0 0 0]/\R=[bxN 0 r]/\ae (.d (.bool (mS r x)),[bxN 0 r])
theorem qeA(x:ak)(r:Int)(ae:P×List (Nat×En)->Prop):(ae (P.d (D.bool (Prod.snd (ak.s x) !=r)),[(0,En.mk 0 (some 0) (Obj.box 3 [P.d (D.int IntKind.i64 r)]))]))=(aJ [] [] 63 [.d (aQ x),.ref 0 0 0] [bxN 0 r]) ae:=by kernel_rfl
abbrev Un(m:List ak)(r:Int):List (Nat×En):=[(0,⟨0,some 0,kV false m⟩),bxN 1 r]
abbrev Ej:P:= .fn 63 [.ref 1 0 0]
abbrev ixO(m:List ak)(r n k:Int):S:=⟨19,[(0,.sl 0 0 m.length),(1,Ej),(7,iD n),(8,iD k)],Un m r⟩
abbrev oxO(m:List ak)(r:Int)(i:Int):PX×S:=(.ret,⟨19,[(0,.sl 0 0 m.length),(1,Ej),(4,iD i)],Un m r⟩)
abbrev oxE(m:List ak)(r:Int):PX×S:=(.exit 0,⟨19,[(0,.sl 0 0 m.length),(1,Ej)],Un m r⟩)
def Pt(bY:Int):List (Nat×En):=[(1,En.mk 0 (some 1) (Obj.box (3:TypeId) (Zv bY)))]
def Z9r:Nat×P:=(1,P.fn (63:FuncId) [iQ])
def Z9q(r:Int):List (Nat×En):=[(0,En.mk 0 (some 0) (Obj.box (3:TypeId) (Zv r)))]
def Z9p(m:List ak)(k:Int)(x:ak):Prop:=[P.d (D.agg (wB m k)),bT]=[oE x,bT]
theorem qbT(m:List ak)(r n k:Int)(ae:PX×S->Prop):(bif ZI k n then bif ki k m then bif iA k m then bif cK m k then∃(x:ak) (bY:Int),Z9p m k x/\Z9q r=Z9q bY/\bif mS bY x then ae (PX.ret,S.mk 19 (lW m::Z9r::A6 k) (D1 m::Pt bY)) else bif Zj k then ae (PX.normal,S.mk 19 (lW m::Z9r::qU n::oL k) (D1 m::Pt bY)) else False else False else False else False else ae (PX.exit 0,S.mk 19 [lW m,Z9r] (D1 m::Pt r)))=(aD [(63,Hm)] [] 96 2 (ixO m r n k)) ae:=by kernel_rfl
def qeB:S->K (PX×S):=λs ae=> ∃m r,s=ixO m r (m.length:Int) 0/\m.length<=1000000/\(∀(i:Int) (hi:i.toNat<m.length),0<=i->mS r m[i.toNat]=true->(∀j (hj:j<i.toNat),mS r (m[j]'(by omega))=false)->ae (oxO m r i))/\((∀j (hj:j<m.length),mS r m[j]=false)->ae (oxE m r))
theorem qeC(m:List ak)(r:Int)(ae:P×List (Nat×En)->Prop):(∃(bO:List ak),∃(bY:Int),S.mk 19 [(0,P.sl 0 0 (List.length m)),(1,P.fn 63 [P.ref 1 0 0]),(7,P.d (D.int IntKind.i64 (↑(List.length m):Int))),(8,P.d (D.int IntKind.i64 (0:Int)))] [(0,En.mk 0 (some 0) (Obj.arr 34 false (List.map aQ m))),(1,En.mk 0 (some 1) (Obj.box 3 [P.d (D.int IntKind.i64 r)]))]=S.mk 19 [(0,P.sl 0 0 (List.length bO)),(1,P.fn 63 [P.ref 1 0 0]),(7,P.d (D.int IntKind.i64 (↑(List.length bO):Int))),(8,P.d (D.int IntKind.i64 (0:Int)))] [(0,En.mk 0 (some 0) (Obj.arr 34 false (List.map aQ bO))),(1,En.mk 0 (some 1) (Obj.box 3 [P.d (D.int IntKind.i64 bY)]))]/\List.length bO<=1000000/\(∀(i:Int) (hi:Int.toNat i<List.length bO),(0:Int)<=i->mS bY bO[Int.toNat i]=true->(∀(j:Nat) (hj:j<Int.toNat i),mS bY bO[j]=false)->ae (P.d (D.int IntKind.i64 i),[(0,En.mk 0 (some 0) (Obj.arr 34 false (List.map aQ bO))),(1,En.mk 0 (some 1) (Obj.box 3 [P.d (D.int IntKind.i64 bY)]))]))/\((∀(j:Nat) (hj:j<List.length bO),mS bY bO[j]=false)->ae (P.d (D.int IntKind.i64 (-1:Int)),[(0,En.mk 0 (some 0) (Obj.arr 34 false (List.map aQ bO))),(1,En.mk 0 (some 1) (Obj.box 3 [P.d (D.int IntKind.i64 bY)]))])))=(aJ [] [(2,ah (aL 96 2) qeB)] 96 [.sl 0 0 m.length,Ej] (Un m r)) ae:=by kernel_rfl
def qeD:bm:=λps R ae=> ∃m r,ps=[.sl 0 0 m.length,Ej]/\R=Un m r/\m.length<=1000000/\(∀(i:Int) (hi:i.toNat<m.length),0<=i->mS r m[i.toNat]=true->(∀j (hj:j<i.toNat),mS r (m[j]'(by omega))=false)->ae (iD i,Un m r))/\((∀j (hj:j<m.length),mS r m[j]=false)->ae (iD (-1),Un m r))
abbrev dlH(q:List ak)(n:Nat)(r i k:Int):S:=⟨42,[(0,.sl 0 0 n),(1,Ej),(5,iD i),(6,iD k)],Un q r⟩
theorem qjJ(q:List ak)(n:Nat)(r i k:Int)(ae:PX×S->Prop):(bif S6 k n then bif lY k n then bif iA k q then bif cK q k then∃(x:ak) (bY:Int),Z9p q k x/\Z9q r=Z9q bY/\bif !mS bY x then bif lY i n then bif iA i q then bif cK q i then bif Zj i then bif Zj k then ae (PX.normal,S.mk 42 (rV n::Z9r::(5,P.d (Zn i))::ZA k) ((0,En.mk 0 (some 0) (Obj.arr (34:TypeId) false (List.set (cr q) (Zg i) (D.aV (D.agg (wB q i)) (wB q k)))))::Pt bY)) else False else False else False else False else False else bif Zj k then ae (PX.normal,S.mk 42 (rV n::Z9r::EP i::ZA k) (D1 q::Pt bY)) else False else False else False else False else ae (PX.exit 0,S.mk 42 [rV n,Z9r,EP i] (D1 q::Pt r)))=(aD [(63,Hm)] [] 62 5 (dlH q n r i k)) ae:=by kernel_rfl
def zI(r:Int)(x:ak):Bool:=x.s.2==r
abbrev dlE(q:List ak)(n:Nat)(r i:Int):PX×S:=(.exit 0,⟨42,[(0,.sl 0 0 n),(1,Ej),(5,iD i)],Un q r⟩)
structure qeE(m:List ak)(r i k:Int):Prop where
 len:m.length<=1000000
 i0:0<=i
 ik:k=i+1
 kl:k<=m.length
 eq:(m.take k.toNat).filter (zI r)=m.take i.toNat
def gDl:S->K (PX×S):=λs ae=> ∃m r i k,s=dlH m m.length r i k/\qeE m r i k/\ ∀(o:List ak) (i':Int),o=m.filter (zI r)->i'=o.length->o.length<=m.length->ae (dlE (o++m.drop o.length) m.length r i')
theorem qhC(m:List ak)(r:Int)(ae:P×List (Nat×En)->Prop):(∃(bO:List ak),∃(bY:Int),[P.sl 0 0 (List.length m),P.fn 63 [P.ref 1 0 0]]=[P.sl 0 0 (List.length bO),P.fn 63 [P.ref 1 0 0]]/\[(0,En.mk 0 (some 0) (Obj.arr 34 false (List.map aQ m))),(1,En.mk 0 (some 1) (Obj.box 3 [P.d (D.int IntKind.i64 r)]))]=[(0,En.mk 0 (some 0) (Obj.arr 34 false (List.map aQ bO))),(1,En.mk 0 (some 1) (Obj.box 3 [P.d (D.int IntKind.i64 bY)]))]/\List.length bO<=1000000/\(∀(i:Int) (hi:Int.toNat i<List.length bO),(0:Int)<=i->mS bY bO[Int.toNat i]=true->(∀(j:Nat) (hj:j<Int.toNat i),mS bY bO[j]=false)->bif i==(-1:Int) then ae (P.sl 0 0 (List.length m),[(0,En.mk 0 (some 0) (Obj.arr 34 false (List.map aQ bO))),(1,En.mk 0 (some 1) (Obj.box 3 [P.d (D.int IntKind.i64 bY)]))]) else bif decide ((-9223372036854775808:Int)<=i+(1:Int)/\i+(1:Int)<=(9223372036854775807:Int)) then∃(Oy:List ak),∃(r:Int),∃(aI:Int),∃(k:Int),S.mk 42 [(0,P.sl 0 0 (List.length m)),(1,P.fn 63 [P.ref 1 0 0]),(5,P.d (D.int IntKind.i64 i)),(6,P.d (D.int IntKind.i64 (i+(1:Int))))] [(0,En.mk 0 (some 0) (Obj.arr 34 false (List.map aQ bO))),(1,En.mk 0 (some 1) (Obj.box 3 [P.d (D.int IntKind.i64 bY)]))]=S.mk 42 [(0,P.sl 0 0 (List.length Oy)),(1,P.fn 63 [P.ref 1 0 0]),(5,P.d (D.int IntKind.i64 aI)),(6,P.d (D.int IntKind.i64 k))] [(0,En.mk 0 (some 0) (Obj.arr 34 false (List.map aQ Oy))),(1,En.mk 0 (some 1) (Obj.box 3 [P.d (D.int IntKind.i64 r)]))]/\qeE Oy r aI k/\ ∀(o:List ak) (i':Int),o=List.filter (zI r) Oy->i'=(↑(List.length o):Int)->List.length o<=List.length Oy->bif decide ((0:Int)<=i'/\i'<=(↑(List.length Oy):Int)) then bif decide (Int.toNat i'+(List.length Oy-Int.toNat i')<=List.length (List.map aQ (o++List.drop (List.length o) Oy))) then bif decide ((0:Int)<=i'/\i'<=(↑(List.length Oy):Int)) then ae (P.sl 0 0 (Int.toNat i'),[(0,En.mk 0 (some 0) (Obj.arr 34 false (List.take (Int.toNat i') (List.map aQ (o++List.drop (List.length o) Oy))++List.replicate (List.length Oy-Int.toNat i') (D.agg [D.int IntKind.i64 (0:Int),D.int IntKind.i64 (0:Int),D.int IntKind.i64 (0:Int),D.fX,D.int IntKind.i64 (0:Int),D.int IntKind.i64 (0:Int),D.fX])++List.drop (Int.toNat i'+(List.length Oy-Int.toNat i')) (List.map aQ (o++List.drop (List.length o) Oy))))),(1,En.mk 0 (some 1) (Obj.box 3 [P.d (D.int IntKind.i64 r)]))]) else False else False else False else False)/\((∀(j:Nat) (hj:j<List.length bO),mS bY bO[j]=false)->ae (P.sl 0 0 (List.length m),[(0,En.mk 0 (some 0) (Obj.arr 34 false (List.map aQ bO))),(1,En.mk 0 (some 1) (Obj.box 3 [P.d (D.int IntKind.i64 bY)]))])))=(aJ [(96,qeD)] [(5,ah (aL 62 5) gDl)] 62 [.sl 0 0 m.length,Ej] (Un m r)) ae:=by kernel_rfl
def hDl:bm:=λps R ae=> ∃m r,ps=[.sl 0 0 m.length,Ej]/\R=Un m r/\m.length<=1000000/\ ∀(o:List ak) (tl:List D),o=m.filter (zI r)->ae (.sl 0 0 o.length,[(0,⟨0,some 0,.arr 34 false (o.map aQ++tl)⟩),bxN 1 r])
def gtK(a b:aw):Bool:=l7 b a
def Kc:bm:=LG 65 34 aQ (λg:ak=>g.s) gtK
def Z9u(o:List ak)(tl:List D):List (Nat×En):=[(0,En.mk 0 (some 0) (Obj.arr (34:TypeId) false (cr o++tl)))]
def Z9t(m:List ak):List P:=[kW m,P.fn (63:FuncId) [iQ]]
theorem qhD(l:List ak)(r:Int)(ae:P×List (Nat×En)->Prop):(∃(au:List ak),rn l au/\Zx/\jP au/\ ∀(m:List ak),m=aC au-> ∃(bO:List ak) (bY:Int),Z9t m=Z9t bO/\D1 m::Pt r=D1 bO::Pt bY/\iR bO/\ ∀(o:List ak) (tl:List D),o=List.filter (zI bY) bO-> ∃(l:List ak) (qhE:List D),[kW o,P.fn (65:FuncId) []]=[kW l,P.fn (65:FuncId) []]/\Z9u o tl=Z9u l qhE/\iR l/\ ∀(l':List ak),List.Perm l' l->List.Pairwise (λ(a b:ak)=>gtK (ak.s b) (ak.s a)=false) l'->ae (P.fn (101:FuncId) [bT],[(0,En.mk 0 none (Obj.box (22:TypeId) [P.d (D.sl 7 (List.take (dA o) (cr l'++qhE)))]))]))=(aJ [(30,nE),(62,hDl),(64,Kc)] [] 36 [bC l,iD r] []) ae:=by kernel_rfl
def Uo:bm:=λps R ae=> ∃l r,ps=[bC l,iD r]/\R=[]/\jP l/\ ∀o,o=zr (aC l) r->ae (.fn 101 [.ref 0 0 0],[(0,⟨0,none,.box 22 [.d (.sl 7 (o.map aQ))]⟩)])
def qhF:bm:=λps R ae=> ∃a b:ak,ps=[.d (aQ a),.d (aQ b)]/\R=[]/\ae (iD (qc b.s.1 b.s.2 a.s.1 a.s.2),[])
theorem qeF(a b:ak)(ae:P×List (Nat×En)->Prop):(∃(t:Int) (r:Int) (t':Int) (r':Int),NM b::JD a=Jv t r t' r'/\Zx/\ae (P.d (D.int .i64 (qc t r t' r')),[]))=(aJ [(66,u7)] [] 65 [.d (aQ a),.d (aQ b)] []) ae:=by kernel_rfl
theorem zJ{α:Type}{f:α->D}(hf: ∀{a b},f a=f b->a=b){l m:List α}(h:l.map f=m.map f):l=m:=(List.map_inj_right (f:=f) (λ_ _=>hf)).1 h
theorem qhG{a b:aw}(h:bh a=bh b):a=b:=by obtain⟨a1,a2⟩:=a;obtain⟨b1,b2⟩:=b;unfold bh iE at h;simp only[D.agg.injEq,zcJ,D.int.injEq,zdc,zdf] at h;rw[h.1,h.2]
theorem qbU{a b:av}(h:bH a=bH b):a=b:=by obtain⟨a1,a2,a3⟩:=a;obtain⟨b1,b2,b3⟩:=b;unfold bH at h;simp only[D.agg.injEq,zcJ,D.int.injEq,zdc,zdf] at h;rw[h.1,h.2.1,h.2.2]
theorem qeG{l m:List Int}(h:a8 l=a8 m):l=m:=zJ (f:=D.int .i64) (λh=>by cases h;rfl) h
theorem qhH{a b:aX}(h:eN a=eN b):a=b:=by obtain⟨k,⟨n1,n2,n3⟩,⟨p1,p2,p3⟩,nm,dr,ds,⟨a1,a2,a3⟩,⟨e1,e2,e3⟩,tx,es⟩:=a;obtain⟨k',⟨n1',n2',n3'⟩,⟨p1',p2',p3'⟩,nm',dr',ds',⟨a1',a2',a3'⟩,⟨e1',e2',e3'⟩,tx',fH⟩:=b;unfold eN iE at h;simp only[D.agg.injEq,zcJ,D.int.injEq,D.str.injEq,D.bool.injEq,D.sl.injEq,zdc,zdf] at h;obtain⟨rfl,rfl,rfl,rfl,rfl,rfl,rfl,rfl,rfl,h1,rfl,rfl,rfl,rfl,rfl,rfl,rfl,h2⟩:=h;rw[zJ qhG h1,zJ qbU h2]
theorem qbV{a b:ak}(h:aQ a=aQ b):a=b:=by obtain⟨⟨s1,s2⟩,n,d,⟨u1,u2⟩,o⟩:=a;obtain⟨⟨s1',s2'⟩,n',d',⟨u1',u2'⟩,o'⟩:=b;unfold aQ iE at h;simp only[D.agg.injEq,zcJ,D.int.injEq,D.sl.injEq,zdc,zdf] at h;obtain⟨rfl,rfl,rfl,h1,rfl,rfl,h2⟩:=h;rw[qeG h1,zJ qhH h2]
noncomputable def qeH(d:D):ak:=by classical exact if h: ∃g,aQ g=d then h.choose else⟨(0,0),0,[],(0,0),[]⟩
theorem Ur(g:ak):qeH (aQ g)=g:=by
 have h: ∃x,aQ x=aQ g:=⟨g,rfl⟩
 unfold qeH;rw[dif_pos h];exact qbV h.choose_spec
theorem qw(r:Int)(x:ak):zI r x= !mS r x:=by unfold zI mS bne;rw[Bool.not_not]
theorem qeI:FC 65 qhF:=FC.mk (H:=[(66,u7)]) (by kernel_rfl) (.cons qbv .nil) (by
 intro ps R ae hh;obtain⟨a,b,rfl,rfl,hp⟩:=hh
 (rw[<-qeF];delta Zx Zt ZE Jv kg il kh iz NM JD)
 exact⟨_,_,_,_,rfl,rfl,hp⟩)
theorem xH{m o:List ak}(h:o.length<=m.length):(o++m.drop o.length).length=m.length:=by simp;omega
theorem qar{m o:List ak}{k:Nat}(hk:k<m.length)(h:o.length<=k):(o++m.drop o.length)[k]'(by rw[xH (by omega)];exact hk)=m[k]:=by rw[List.getElem_append_right h,List.getElem_drop];congr 1;omega
theorem qas{m o:List ak}{x:ak}(h:o.length<m.length):(o++m.drop o.length).set o.length x=(o++[x])++m.drop (o++[x]).length:=by rw[zcH _ _ (zak _),zcZ,za0];congr 1;rw[zaY h,List.set_cons_zero];simp
theorem Mc{m o:List ak}{k:Nat}(hk:k<m.length)(h:o.length<=k):D.nth ((o++m.drop o.length).map aQ) k=aQ m[k]:=by rw[ay _ _ _ (by rw[xH (by omega)];exact hk),qar hk h]
section
variable{X:XF}
theorem Us:FD X 63 Hm:=FD.mk (H:=[]) (hk:=[]) (by kernel_rfl) .nil .nil (by intro ps R ae hh;obtain⟨x,r,rfl,rfl,hp⟩:=hh;rw[<-qeA];exact hp)
theorem qat:LD X 96 2 (ah (aL 96 2) qeB):=
 LD.find (H:=[(63,Hm)]) (hk:=[]) (by kernel_rfl) (by kernel_rfl) (.cons Us .nil) .nil
  (A:=List ak×Int) (λa k=>ixO a.1 a.2 (a.1.length:Int) k) (·.1) (λa _ x=>mS a.2 x) (λa=>a.1.length<=1000000) (λa i=>oxO a.1 a.2 i) (λa=>oxE a.1 a.2) (λ_ _ h=>by cases h) (λ_ h=>by cases h)
  (by
   rintro⟨m,r⟩ k ae dO hm h0 hk ht hf;dsimp only at*
   (rw[<-qbT];delta Zn oL Zt qU Za Z9 Zj Zv Pt cr D1 nP A6 iQ Z9r dA kW lW Z9q kc ke kg il kh iz oE bT Zg fJ xw my nO wB Z9p cK eD iA gX ki ZI)
   have e1:D.nth (m.map aQ) k.toNat=aQ m[k.toNat]:=ay _ _ _ dO;rw[e1];simp only[zaa];refine bz hk (ao ⟨h0,hk⟩ (ao dO (aq (cY _) ⟨m[k.toNat],r,rfl,rfl,az (λh=>ht h) λh=>ao (by omega) (hf h)⟩))))
  (by
   rintro⟨m,r⟩ k ae hm hk hp;dsimp only at*
   (rw[<-qbT];delta Zn oL Zt qU Za Z9 Zj Zv Pt cr D1 nP A6 iQ Z9r dA kW lW Z9q kc ke kg il kh iz oE bT Zg fJ xw my nO wB Z9p cK eD iA gX ki ZI)
   exact kA (by omega) hp)
  (by rintro s ae ⟨m,r,rfl,hm,h1,h2⟩;exact⟨(m,r),rfl,hm,h1,h2⟩)
theorem qhI:FD X 96 qeD:=FD.mk (H:=[]) (hk:=[(2,ah (aL 96 2) qeB)]) (by kernel_rfl) .nil (.cons qat .nil) (by intro ps R ae hh;obtain⟨m,r,rfl,rfl,hm,h1,h2⟩:=hh;rw[<-qeC];exact⟨m,r,rfl,hm,h1,h2⟩)
theorem qeJ:LD X 62 5 (ah (aL 62 5) gDl):=
 LD.par (H:=[(63,Hm)]) (hk:=[]) (by kernel_rfl) (by kernel_rfl) (.cons Us .nil) .nil
  (A:=List ak×Int) (B:=List ak×Int×Int) (λa b=>dlH (b.1++a.1.drop b.1.length) a.1.length a.2 b.2.1 b.2.2)
  (λa b=>a.1.length<=1000000/\b.1=(a.1.take b.2.2.toNat).filter (zI a.2)/\b.2.1=(b.1.length:Int)/\0<=b.2.2/\b.2.2.toNat<=a.1.length)
  (λa b=>((a.1.length:Int)-b.2.2).toNat)
  (λa x=> ∃(o:List ak) (i:Int),o=a.1.filter (zI a.2)/\i=(o.length:Int)/\o.length<=a.1.length/\x=dlE (o++a.1.drop o.length) a.1.length a.2 i)
  (by
   rintro⟨m,r⟩ ⟨o,i,k⟩ ⟨hm,ho,hi,h0,hk⟩;dsimp only at*
   have lX:o.length<=k.toNat:=by rw[ho];refine zaG (zaU _ _) ?_;simp;omega
   (rw[<-qjJ];delta cr D1 Zt EP Zv Pt Zg fJ xw my nO wB Zn ZA iQ Z9r ZB rV Za Z9 Zj Z9q kc ke kg il kh iz oE bT Z9p cK eD iA lY S6)
   refine b7 (λhp=> ?_) λhp=> ?_
   ·have aY:k.toNat<m.length:=by omega
    have jQ:=qv aY (zI r);have Fq:=xH (m:=m) (o:=o) (by omega);have e1:D.nth ((o++m.drop o.length).map aQ) k.toNat=aQ m[k.toNat]:=Mc aY lX;have jY:=λx:ak=>qas (m:=m) (o:=o) (x:=x) (by omega);have hit:i.toNat=o.length:=by omega
    have hib:0<=i/\i<(m.length:Int):=⟨by omega,by omega⟩
    have hif:(-9223372036854775808:Int)<=i+1/\i+1<=9223372036854775807:=by omega
    have ic:(-9223372036854775808:Int)<=k+1/\k+1<=9223372036854775807:=by omega
    have e2:D.nth ((o++m.drop o.length).map aQ) i.toNat=aQ m[i.toNat]:=Mc (by omega) (by omega);rw[e1,e2];generalize m[k.toNat]=g at*
    generalize m[i.toNat]=y at*
    have w1: ∀x y:ak,D.aV (D.agg [D.int .i64 (D.aj (D.ar (aQ x) 0)),D.int .i64 (D.aj (D.ar (aQ x) 1)),D.int .i64 (D.aj (D.ar (aQ x) 2)),D.sl 1 (D.dy (D.ar (aQ x) 3)),D.int .i64 (D.aj (D.ar (aQ x) 4)),D.int .i64 (D.aj (D.ar (aQ x) 5)),D.sl 18 (D.dy (D.ar (aQ x) 6))]) [D.int .i64 (D.aj (D.ar (aQ y) 0)),D.int .i64 (D.aj (D.ar (aQ y) 1)),D.int .i64 (D.aj (D.ar (aQ y) 2)),D.sl 1 (D.dy (D.ar (aQ y) 3)),D.int .i64 (D.aj (D.ar (aQ y) 4)),D.int .i64 (D.aj (D.ar (aQ y) 5)),D.sl 18 (D.dy (D.ar (aQ y) 6))]=aQ y:=λ_ _=>rfl;rw[w1,hit,<-zb1,jY];simp only[zaa,Fq];refine ao ⟨h0,hp⟩ (ao aY (aq (cY _) ⟨g,r,rfl,rfl,az (λh=> ?_) λh=> ?_⟩))
    ·refine ao hib (ao (by omega) (aq (cY _) (ao hif (ao ic ?_))));refine⟨((m.length:Int)-(k+1)).toNat,by omega,(o++[g],i+1,k+1),rfl,⟨hm,?_,?_,by show 0<=k+1;omega,by show(k+1).toNat<=m.length;omega⟩,rfl⟩
     ·show o++[g]=_;rw[show(k+1).toNat=k.toNat+1 by omega,jQ,zao (by rw[qw];exact h),ho]
     show i+1=((o++[g]).length:Int)
     rw[zan];simp;exact hi
    refine ao ic ?_;refine⟨((m.length:Int)-(k+1)).toNat,by omega,(o,i,k+1),rfl,⟨hm,?_,hi,by show 0<=k+1;omega,by show(k+1).toNat<=m.length;omega⟩,rfl⟩;show o=_;rw[show(k+1).toNat=k.toNat+1 by omega,jQ,zal (by rw[qw,h];simp),zbe];exact ho
   refine⟨o,i,?_,hi,by omega,rfl⟩;rw[ho,zah (by omega)])
  (by
   rintro s ae ⟨m,r,i,k,rfl,hq,hp⟩;have uB:=hq.kl;have h0:=hq.i0;have VU:=hq.ik;have hl:(m.take i.toNat).length=i.toNat:=by rw[zay];omega
   refine⟨(m,r),(m.take i.toNat,i,k),?_,⟨hq.len,hq.eq.symm,?_,by show 0<=k;omega,by show k.toNat<=m.length;omega⟩,?_⟩
   ·dsimp only;rw[hl,zbS]
   ·show i=_;rw[hl];omega
   rintro x ⟨o,i',h1,h2,h3,rfl⟩;exact hp o i' h1 h2 h3)
theorem qhJ{m:List ak}{r:Int}(h: ∀j (hj:j<m.length),mS r m[j]=false):m.filter (zI r)=m:=by rw[List.filter_eq_self];intro x hx;obtain⟨j,hj,rfl⟩:=zaW hx;rw[qw,h j hj];rfl
theorem qau{m:List ak}{r i:Int}(hm:m.length<=1000000)(hi:i.toNat<m.length)(h0:0<=i)(ht:mS r m[i.toNat]=true)(hb: ∀j (hj:j<i.toNat),mS r (m[j]'(by omega))=false):qeE m r i (i+1):=by refine⟨hm,h0,rfl,by omega,?_⟩;rw[show(i+1).toNat=i.toNat+1 by omega,qv hi,zal (by rw[qw,ht];simp),zbe,List.filter_eq_self];intro x hx;obtain⟨j,hj,rfl⟩:=zc8.1 hx;rw[qw,hb j (by omega)];rfl
theorem qjK:FD X 62 hDl:=FD.mk (H:=[(96,qeD)]) (hk:=[(5,ah (aL 62 5) gDl)]) (by kernel_rfl) (.cons qhI .nil) (.cons qeJ .nil) (by
 intro ps R ae hh;obtain⟨m,r,rfl,rfl,hm,hp⟩:=hh;rw[<-qhC];refine⟨m,r,rfl,rfl,hm,λi hi h0 ht hb=>Ai (λh=>by omega) λ_=>ao (by omega) ⟨m,r,i,i+1,rfl,qau hm hi h0 ht hb,λo i' ho yc lX=> ?_⟩,λh=> ?_⟩
 ·have hit:i'.toNat=o.length:=by omega
  refine ao (by omega) (ao (by rw[hit,zaa,xH lX];omega) (ao (by omega) ?_));rw[hit,zaB,zb3 (by simp),za0];exact hp o _ ho
 have:=hp m [] (qhJ h).symm;rwa [zbe] at this)
theorem qav:FD X 64 Kc:=SB (dec:=qeH) (c:=λa b=>qc b.s.1 b.s.2 a.s.1 a.s.2)
 (FD.tR Tryz.func64 (by kernel_rfl) (by kernel_rfl) λps R ae h=>wm h) (λx=>Ur x) JW (λx y=>(DL y.s x.s).lt) (λ_=>⟨_,rfl⟩)
 (λx y=>FC.qgI qeI ⟨x,y,rfl,rfl,rfl⟩) ⟨_,Tryz.func65,by kernel_rfl,by kernel_rfl⟩
theorem qbW:FD X 36 Uo:=FD.mk (H:=[(30,nE),(62,hDl),(64,Kc)]) (hk:=[]) (by kernel_rfl) (.cons LJ (.cons qjK (.cons qav .nil))) .nil (by
 intro ps R ae hh;obtain⟨l,r,rfl,rfl,hs,hp⟩:=hh
 (rw[<-qhD];delta cr dA bT Z9u kW iR Zt Zv Pt D1 iQ Z9t Zx cS rn)
 have q5:=cF l;have sX:=hs.1;refine⟨l,rfl,rfl,hs,λm hm=>⟨m,r,rfl,rfl,by rw[hm];omega,λo tl ho=>⟨o,tl,rfl,rfl,?_,λl' GX hpw=> ?_⟩⟩⟩
 ·rw[ho,hm];exact zaG (zaU _ _) (by omega)
 have e:l'=zr (aC l) r:=LC (iu l) (by rw[<-hm];exact ho▸GX) hpw;rw[<-GX.length_eq,zb3 (by simp)];exact hp l' e)
end
def oM(ns:List Nat):List (Nat×En)->List (Nat×En)
 | []=>[]
 | (k,e)::r=>(k,if gY k ns then⟨e.aZ,none,e.obj⟩ else e)::oM ns r
def S.lR(ns:List Nat)(s:S):S:=⟨s.n,s.tm,oM ns s.rg⟩
theorem zK(ns:List Nat)(n:Nat): ∀(R:List (Nat×En)),lk (oM ns R) n=(lk R n).map λe=>if gY n ns then⟨e.aZ,none,e.obj⟩ else e
 | []=>rfl
 | (k,e)::r=>by
  simp only[oM,lk];split
  next hk=>rw[zaf hk];rfl
  exact zK ns n r
theorem kZ{ns:List Nat}{R:List (Nat×En)}{n:Nat}{e':En}(h:lk (oM ns R) n=some e'): ∃e,lk R n=some e/\e'.aZ=e.aZ/\e'.obj=e.obj/\(e'.tag=none\/e'=e):=by
 rw[zK,zax] at h;obtain⟨e,he,rfl⟩:=h;refine⟨e,he,?_⟩;split
 ·exact⟨rfl,rfl,.inl rfl⟩
 exact⟨rfl,rfl,.inr rfl⟩
theorem Hn{ns:List Nat}{R:List (Nat×En)}{n:Nat}{e:En}(h:lk R n=some e): ∃e',lk (oM ns R) n=some e'/\e'.aZ=e.aZ/\e'.obj=e.obj:=by rw[zK,h];refine⟨_,rfl,?_⟩;split<;>exact⟨rfl,rfl⟩
section
variable{Q:Program}{T:Tg}{F:Nat->Prop}{G:Nat->Value}{w:World}{a:Act}{s:S}{ns:List Nat}
theorem Cm:Own G (oM ns s.rg)=Own G s.rg:=by
 funext b;refine propext ⟨?_,?_⟩
 ·rintro⟨n,e',he,hb⟩;obtain⟨e,h1,_,h3,_⟩:=kZ he;exact⟨n,e,h1,by rw[<-h3];exact hb⟩
 rintro⟨n,e,he,hb⟩;obtain⟨e',h1,_,h3⟩:=Hn (ns:=ns) he;exact⟨n,e',h1,by rw[h3];exact hb⟩
theorem aG.lR(h:aG Q T F G w a s):aG Q T F G w a (s.lR ns):=by
 have hN:Names G G s.rg (oM ns s.rg):=⟨λn e he=>by obtain⟨e',h1,h2,h3⟩:=Hn (ns:=ns) he;exact⟨e',h1,by omega,λ_ hl=>by rw[h3] at hl;exact hl⟩,λ_ _ _ _ _ _ _=>rfl⟩
 have hx:Ext (Own G s.rg) (Own G (oM ns s.rg)) F F w w:=by rw[Cm];exact Ext.refl _ _ _
 refine⟨h.r9.go hx,h.size,λt p hp=>cB.mono (λ_ h=>h) (λ_ _=>rfl) hN (h.tm t p hp),λn e' he=> ?_,λn m e e' b he cR hb du=> ?_,λn e b he hb=> ?_,h.jz,λn e i he hi hl=> ?_,h.z,h.dr,h.sz⟩
 ·obtain⟨e,h1,_,h3,_⟩:=kZ he;rw[h3];exact(h.rg n e h1).mono (λ_ h=>h) (λ_ _=>rfl) hN rfl (λ_ _=>rfl)
 ·obtain⟨x,h1,_,h3,_⟩:=kZ he;obtain⟨x',O1,_,h3',_⟩:=kZ cR;rw[h3] at hb;rw[h3'] at du;exact h.own n m x x' b h1 O1 hb du
 ·obtain⟨x,h1,_,h3,_⟩:=kZ he;rw[h3] at hb;exact h.mU n x b h1 hb
 obtain⟨x,h1,_,h3,h4⟩:=kZ he;rcases h4 with h4 |h4
 ·rw[h4] at hi;cases hi
 subst h4;exact h.tag n _ i h1 hi hl
end
theorem TW.lR{Q:Program}{T:Tg}{c:Code}{s:S}{ns:List Nat}{ae:PX×S->Prop}(h:TW Q T c (s.lR ns) ae):TW Q T c s ae:=λr uA F G w a Q' hs hK=>h uA F G w a Q' hs.lR λe s' a' w' hp hP=>hK e s' a' w' hp (by obtain⟨F',G',h1,h2⟩:=hP;refine⟨F',G',h1,?_⟩;have e:Own G (s.lR ns).rg=Own G s.rg:=Cm;rw[<-e];exact h2)
theorem LN.qjL{X:XF}{w0:World}(hX:dC PR w0 X.cf)(ns:List Nat){H HN:List (FuncId×bm)}{hk:List (Nat×(S->K (PX×S)))}{f id:Nat}{g:S->K (PX×S)}(hdr:PR.follows .mixedOrders=true)(hu:uniq PR f=true)(hc:cd (qK f) (bB PR f id)=true)(hnr:(bV (bB PR f id)).isEmpty=true)(hH:HD X H)(oV:LF w0 HN)(hl:Yt w0 f hk)
  {A B:Type} (hd:A->B->S) (Inv:A->B->Prop) (mu:A->B->Nat) (Out:A->PX×S->Prop)
  (hr: ∀a b,Inv a b->fb H HN hk f id (hd a b) (roundPost (mu a b) (λm s=> ∃b',s.lR ns=hd a b'/\Inv a b'/\m=mu a b') (Out a)))
  (hg: ∀s ae,g s ae-> ∃a b,s.lR ns=hd a b/\Inv a b/\ ∀x,Out a x->ae x):LN w0 f id (ah (aL f id) g):=by
 intro val lo mk s ae hp;unfold ah at hp;cases hh:cA (aL f id) s with
 |none=>simp only[hh] at hp
 |some s0=>
  simp only[hh] at hp;obtain⟨a,b,h0,h1,h2⟩:=hg s0 ae hp;refine TW.mono (TW.loop (keep:=aL f id) (I:=λm s=> ∃b',s.lR ns=hd a b'/\Inv a b'/\m=mu a b') (O:=Out a) (λn s hs=> ?_) hh ⟨b,h0,h1,rfl⟩) h2;obtain⟨b',h4,h3,rfl⟩:=hs;have:=hr a b' h3;unfold fb at this;refine TW.lR (ns:=ns) ?_;rw[h4];refine TW.mono (ew (kp:=Ji X) (T:=⟨val,w0,lo,mk⟩) oV.get (zs hH) hX hdr (kp1:=aL f) (bB PR f id) hc (λd hd h hh s ae hp=>by have:=hl.get _ _ hh val lo mk s ae hp;rwa [uW hu hd] at this) (λx hx=>by rw[zbO.1 hnr] at hx;cases hx) _ _ this) ?_;rintro⟨e,s1⟩ hx;cases e with
  |normal=>obtain⟨s2,h4,m,h5,h6⟩:=KW.dW (p:=λs2=>cA (aL f id) s1=some s2) (λ_ h=>h) _ hx;exact⟨s2,h4,m,h5,h6⟩
  |exit i=>obtain⟨s2,h4,h5⟩:=KW.dW (p:=λs2=>dJ (aL f id) s1=some s2) (λ_ h=>h) _ hx;exact⟨s2,h4,h5⟩
  |ret=>obtain⟨s2,h4,h5⟩:=KW.dW (p:=λs2=>dJ (aL f id) s1=some s2) (λ_ h=>h) _ hx;exact⟨s2,h4,h5⟩
theorem LN.qhK{X:XF}{w0:World}(hX:dC PR w0 X.cf)(ns:List Nat){H HN:List (FuncId×bm)}{hk:List (Nat×(S->K (PX×S)))}{f id:Nat}{g:S->K (PX×S)}(hdr:PR.follows .mixedOrders=true)(hu:uniq PR f=true)(hc:cd (qK f) (bB PR f id)=true)(hnr:(bV (bB PR f id)).isEmpty=true)(hH:HD X H)(oV:LF w0 HN)(hl:Yt w0 f hk)
  {A B:Type} (hd:A->B->Int->S) (len:A->Nat) (Inv:A->Nat->B->Prop) (Out:A->PX×S->Prop)
  (hr: ∀a b (k:Int) ae,0<=k->k<len a->k.toNat<len a->Inv a k.toNat b->(∀b' s,S.lR ns s=hd a b' (k+1)->Inv a (k.toNat+1) b'->ae (.normal,s))->(∀x,x.1≠ .normal->Out a x->ae x)->fb H HN hk f id (hd a b k) ae)
  (hx: ∀a b (k:Int) ae,k=len a->Inv a (len a) b->(∀x,x.1≠ .normal->Out a x->ae x)->fb H HN hk f id (hd a b k) ae)
  (hg: ∀s ae,g s ae-> ∃a b,S.lR ns s=hd a b 0/\Inv a 0 b/\ ∀x,Out a x->ae x):LN w0 f id (ah (aL f id) g):=
 LN.qjL hX ns hdr hu hc hnr hH oV hl (A:=A) (B:=B×Int) (λa b=>hd a b.1 b.2) (λa b=>0<=b.2/\b.2.toNat<=len a/\Inv a b.2.toNat b.1) (λa b=>(len a-b.2).toNat) Out
  (by
   rintro a ⟨b,k⟩ ⟨h1,h2,h3⟩;dsimp only at*
   have bt: ∀x:PX×S,x.1≠ .normal->Out a x->roundPost ((len a-k).toNat) (λm s=> ∃b':B×Int,s.lR ns=hd a b'.1 b'.2/\(0<=b'.2/\b'.2.toNat<=len a/\Inv a b'.2.toNat b'.1)/\m=(len a-b'.2).toNat) (Out a) x:=by
    rintro⟨e,s⟩ dP hx;cases e with
    |normal=>exact absurd rfl dP
    |exit i=>exact hx
    |ret=>exact hx
   by_cases hk:k<len a
   ·refine hr a b k _ h1 hk (by omega) h3 (λb' s hs hb=> ?_) bt;exact⟨((len a:Int)-(k+1)).toNat,by omega,(b',k+1),hs,⟨by show 0<=k+1;omega,by show(k+1).toNat<=len a;omega,by show Inv a (k+1).toNat b';rw[show(k+1).toNat=k.toNat+1 by omega];exact hb⟩,rfl⟩
   have e:k=len a:=by omega
   refine hx a b k _ e ?_ bt;have:k.toNat=len a:=by omega
   rwa [this] at h3)
  (by intro s ae hp;obtain⟨a,b,h1,h2,h3⟩:=hg s ae hp;exact⟨a,(b,0),h1,⟨zbz _,by simp,h2⟩,h3⟩)
abbrev onM(f:D->Option D)(c:Int):Obj:= .map 30 f c false
abbrev qaw(f:D->Option D)(c:Int):Obj:= .map 50 f c false
abbrev vwB(ng no na np nh nl:Nat):Obj:= .box 120 [.sl 1 0 ng,.sl 2 0 no,.mp 3 0,.sl 4 0 na,.sl 5 0 np,.mp 6 0,.sl 7 0 nh,.sl 8 0 nl]
abbrev vwR(g:List ak)(o:List aw)(f:D->Option D)(c:Int)(d:D->Option D)(n:Int)(na np nh nl:Nat)(A P H L:List D):List (Nat×En):=[(0,⟨0,some 0,vwB g.length o.length na np nh nl⟩),(1,⟨0,some 1,kV false g⟩),(2,⟨0,some 2,mA false o⟩),(3,⟨0,some 3,onM f c⟩),(4,⟨0,none,.arr 50 false A⟩),(5,⟨0,none,.arr 104 false P⟩),(6,⟨0,some 6,qaw d n⟩),(7,⟨0,none,.arr 106 false H⟩),(8,⟨0,none,.arr 106 false L⟩)]
abbrev qax(x:ak):Obj:= .box 34 [iD x.s.1,iD x.s.2,iD x.n,.d (.sl 1 (a8 x.deps)),iD x.bN.1,iD x.bN.2,.d (.sl 18 (x.ops.map eN))]
abbrev qhL(o:aX):Obj:= .box 54 [iD o.kind,iD o.node.1,iD o.node.2.1,iD o.node.2.2,iD o.parent.1,iD o.parent.2.1,iD o.parent.2.2,sD o.name,.d (.bool o.dir),gh o.cg,iD o.after.1,iD o.after.2.1,iD o.after.2.2,iD o.elem.1,iD o.elem.2.1,iD o.elem.2.2,sD o.text,cX o.elems]
abbrev gaH(x:ak)(g:List ak)(o:List aw)(f:D->Option D)(c:Int)(d:D->Option D)(n:Int)(na np nh nl:Nat)(A P H L:List D)(on:Bool)(i:Int):S:=⟨117,[(0,.ref 0 0 0),(3,.ref 9 0 0),(4,.d (.bool on)),(14,.d (.sl 18 (x.ops.map eN))),(15,iD ((x.ops.map eN).length:Int)),(16,iD i)],vwR g o f c d n na np nh nl A P H L++[(9,⟨0,none,qax x⟩)]⟩
abbrev qeK(x:ak)(y:aX)(g:List ak)(o:List aw)(f:D->Option D)(c:Int)(d:D->Option D)(n:Int)(na np nh nl:Nat)(A P H L:List D)(on:Bool)(i j:Int):S:=⟨117,[(0,.ref 0 0 0),(3,.ref 9 0 0),(4,.d (.bool on)),(6,.ref 10 0 0),(14,.d (.sl 18 (x.ops.map eN))),(15,iD ((x.ops.map eN).length:Int)),(16,iD i),(95,gh y.cg),(96,iD ((y.cg.map bh).length:Int)),(97,iD j)],vwR g o f c d n na np nh nl A P H L++[(9,⟨0,none,qax x⟩),(10,⟨0,none,qhL y⟩)]⟩
def sQ(i:Int):Nat×P:=(16,P.d (Zt i))
def iI(x:ak):Nat×P:=(15,P.d (D.int .i64 (wX x)))
def iJ(x:ak):Nat×P:=(14,po x)
def iK(on:Bool):Nat×P:=(4,fI on)
def iB:Nat×P:=(3,P.ref 9 0 0)
def Ut(nh:Nat)(nl:Nat):List P:=[P.mp 6 0,P.sl 7 0 nh,P.sl 8 0 nl]
def Cn:P:=P.mp 3 0
def Co(o:List aw):P:=P.sl 2 0 (dR o)
def fQ(g:List ak)(o:List aw)(na:Nat)(np:Nat)(nh:Nat)(nl:Nat):Nat×En:=(0,En.mk 0 (some 0) (Obj.box (120:TypeId) (mZ g::Co o::Cn::P.sl 4 0 na::P.sl 5 0 np::Ut nh nl)))
def Wl(y:aX):En:=En.mk 0 none (Obj.box (54:TypeId) (P.d (wV y)::P.d (vi y)::P.d (vg y)::P.d (vf y)::P.d (Ah y)::P.d (Ag y)::P.d (Ae y)::P.d (D.str (aX.name y))::P.d (D.bool (aX.dir y))::P.d (lM y)::P.d (A1 y)::P.d (A0 y)::P.d (AZ y)::P.d (D.int .i64 (wU y))::P.d (D.int .i64 (wT y))::P.d (D.int .i64 (wS y))::P.d (D.str (aX.text y))::R7 y))
def s8(x:ak)(y:aX):List (Nat×En):=[(9,lO x),(10,Wl y)]
def bU(H:List D):En:=En.mk 0 none (Obj.arr (106:TypeId) false H)
def fc(d:D->Option D)(n:Int):Nat×En:=(6,En.mk 0 (some 6) (Obj.map 50 d n false))
def ES(P:List D):En:=En.mk 0 none (Obj.arr (104:TypeId) false P)
def eY(P:List D):Nat×En:=(5,ES P)
def ET(A:List D):En:=En.mk 0 none (Obj.arr (50:TypeId) false A)
def eZ(A:List D):Nat×En:=(4,ET A)
def dT(f:D->Option D)(c:Int):Nat×En:=(3,En.mk 0 (some 3) (Obj.map 30 f c false))
def dU(o:List aw):Nat×En:=(2,En.mk 0 (some 2) (Obj.arr (30:TypeId) false (dX o)))
def dV(g:List ak):Nat×En:=(1,En.mk 0 (some 1) (Obj.arr (34:TypeId) false (cr g)))
def s9:Nat×P:=(6,P.ref 10 0 0)
def Z9E(on:Bool)(x:ak)(i:Int)(y:aX)(j:Int):List (Nat×P):=[e9,iB,iK on,s9,iJ x,iI x,sQ i,(95,P.d (lM y)),(96,P.d (D.int .i64 (nM y))),(97,P.d (Zn j))]
def Z9v(y:aX)(j:Int):D:=D.nth (List.map bh (aX.cg y)) (Zg j)
def Wm(y:aX)(j:Int):List D:=[D.agg [vi y,vg y,vf y,D.int .i64 (D.aj (D.ar (Z9v y j) 0)),D.int .i64 (D.aj (D.ar (Z9v y j) 1))]]
def zL(nl:Nat)(L:List D):Bool:=Nat.ble nl (List.length L)
theorem Uu(x:ak)(y:aX)(g:List ak)(o:List aw)(f:D->Option D)(c:Int)(d:D->Option D)(n:Int)(na np nh nl:Nat)(A P H L:List D)(on:Bool)(i j:Int)(ae:PX×S->Prop):(bif decide (j<nM y) then bif decide ((0:Int)<=j/\j<nM y) then bif cx PR (30:TypeId) (Z9v y j) then bif on then bif zL nl L&&aO (nl+List.length (Wm y j)) 40 then bif Zj j then ae (PX.normal,S.mk 117 (Z9E on x i y j) ((0,En.mk 0 (some 0) (Obj.box (120:TypeId) [mZ g,Co o,Cn,Pi.P.sl 4 0 na,Pi.P.sl 5 0 np,Pi.P.mp 6 0,Pi.P.sl 7 0 nh,Pi.P.sl 8 0 (nl+List.length (Wm y j))]))::dV g::dU o::dT f c::eZ A::eY P::fc d n::(7,bU H)::(8,En.mk 0 none (Obj.arr (106:TypeId) false (List.take nl L++Wm y j)))::s8 x y)) else False else False else bif Zj j then ae (PX.normal,S.mk 117 (Z9E on x i y j) (fQ g o na np nh nl::dV g::dU o::dT f c::eZ A::eY P::fc d n::(7,bU H)::(8,bU L)::s8 x y)) else False else False else False else ae (PX.exit 2,S.mk 117 [e9,iB,iK on,iJ x,iI x,sQ i] [fQ g o na np nh nl,dV g,dU o,dT f c,eZ A,eY P,fc d n,(7,bU H),(8,bU L),(9,lO x)]))=(fb [] [] [] 95 13 (qeK x y g o f c d n na np nh nl A P H L on i j)) ae:=by kernel_rfl
def Ho(y:aX):List bj:=y.cg.map λs=>(y.node,s)
def cZ(on:Bool)(y:aX)(_:Nat)(L:List D)(bw:Nat)(L':List D):Prop:=bw=L'.length/\L'=L++(if on=true then(Ho y).map jM else [])
def Uv:S->K (PX×S):=λs ae=> ∃x y g o f c d n na np nh nl A P H L on i,s.lR [4,5,7,8]=qeK x y g o f c d n na np nh nl A P H L on i 0/\(y.cg.length<=200/\nl=L.length/\nl<=100000000000)/\ ∀bw L',cZ on y nl L bw L'->ae (.exit 2,gaH x g o f c d n na np nh bw A P H L' on i)
def Zaa(H:List D)(L:List D):List (Nat×En):=[(7,bU H),(8,bU L)]
def Z9X(x:ak)(i:Int):List D:=[D.agg [Sb x i,R9 x i,R8 x i,iz x,il x]]
def Za0(nh:Nat)(x:ak)(i:Int)(nl:Nat):List P:=[P.mp 6 0,P.sl 7 0 (nh+List.length (Z9X x i)),P.sl 8 0 nl]
def Za9(g:List ak)(o:List aw)(na:Nat)(np:Nat)(nh:Nat)(x:ak)(i:Int)(nl:Nat):Nat×En:=(0,En.mk 0 (some 0) (Obj.box (120:TypeId) (mZ g::Co o::Cn::P.sl 4 0 na::P.sl 5 0 np::Za0 nh x i nl)))
def Ek(L:List D)(x:ak)(i:Int):List (Nat×En):=[(8,bU L),(9,lO x),(10,En.mk 0 none (Obj.box (54:TypeId) [P.d (D.int .i64 (D.aj (D.ar (jO x i) 0))),P.d (Sb x i),P.d (R9 x i),P.d (R8 x i),P.d (Ye x i),P.d (Yd x i),P.d (Yc x i),P.d (D.str (D.eO (D.ar (jO x i) 7))),P.d (D.bool (D.ff (D.ar (jO x i) 8))),P.d (D.sl 2 (D.dy (D.ar (jO x i) 9))),P.d (D.int .i64 (D.aj (D.ar (jO x i) 10))),P.d (D.int .i64 (D.aj (D.ar (jO x i) 11))),P.d (D.int .i64 (D.aj (D.ar (jO x i) 12))),P.d (D.int .i64 (D.aj (D.ar (jO x i) 13))),P.d (D.int .i64 (D.aj (D.ar (jO x i) 14))),P.d (D.int .i64 (D.aj (D.ar (jO x i) 15))),P.d (D.str (D.eO (D.ar (jO x i) 16))),P.d (D.sl 3 (D.dy (D.ar (jO x i) 17)))]))]
def Z9V(x:ak)(i:Int):List D:=[D.agg [Sb x i,R9 x i,R8 x i,Ye x i,Yd x i,Yc x i,D.str (D.eO (D.ar (jO x i) 7)),D.bool (D.ff (D.ar (jO x i) 8))]]
def Z9U(na:Nat)(x:ak)(i:Int):Nat:=na+List.length [D.agg (iz x::il x::ZE i)]
def Wn(g:List ak)(o:List aw)(na:Nat)(x:ak)(i:Int)(np:Nat)(nh:Nat)(nl:Nat):Nat×En:=(0,En.mk 0 (some 0) (Obj.box (120:TypeId) (mZ g::Co o::Cn::P.sl 4 0 (Z9U na x i)::P.sl 5 0 (np+List.length (Z9V x i))::Ut nh nl)))
def rW(y:aX)(aW:Nat)(cu:List D):Prop:=List.length (aX.cg y)<=200/\aW=List.length cu/\aW<=100000000000
def Wo(nh:Nat)(H:List D)(x:ak)(i:Int)(L:List D):List (Nat×En):=(7,En.mk 0 none (Obj.arr (106:TypeId) false (List.take nh H++Z9X x i)))::Ek L x i
def Md(x:ak)(i:Int)(d:D->Option D)(n:Int):Nat×En:=(6,En.mk 0 (some 6) (Obj.map 50 (λ(k':D)=>bif D.oO (D.agg [D.int .i64 (D.aj (D.ar (jO x i) (0+1))),D.int .i64 (D.aj (D.ar (jO x i) (0+1+1))),D.int .i64 (D.aj (D.ar (jO x i) Z5T))]) k' then some (D.bool (D.ff (D.ar (jO x i) (Z5T+1+1+1+1+1)))) else d k') (bif Option.isSome (d (D.agg [Sb x i,R9 x i,R8 x i])) then n else n+(1:Int)) false))
def Me(np:Nat)(P:List D)(x:ak)(i:Int):Nat×En:=(5,En.mk 0 none (Obj.arr (104:TypeId) false (List.take np P++Z9V x i)))
def Mf(na:Nat)(A:List D)(x:ak)(i:Int):Nat×En:=(4,En.mk 0 none (Obj.arr (50:TypeId) false (List.take na A++[D.agg (iz x::il x::ZE i)])))
def Za1(g:List ak)(o:List aw)(na:Nat)(x:ak)(i:Int)(np:Nat)(nh:Nat)(nl:Nat):Nat×En:=(0,En.mk 0 (some 0) (Obj.box (120:TypeId) (mZ g::Co o::Cn::P.sl 4 0 (Z9U na x i)::P.sl 5 0 (np+List.length (Z9V x i))::Za0 nh x i nl)))
def wF(on:Bool)(x:ak)(i:Int):List (Nat×P):=[e9,iB,iK on,s9,iJ x,iI x,sQ i,(95,P.d (D.sl 2 (D.dy (D.ar (jO x i) 9)))),(96,P.d (D.int .i64 (↑(List.length (D.dy (D.ar (jO x i) 9))):Int))),(97,P.d Z7)]
def Wp(nh:Nat)(H:List D)(x:ak)(i:Int):Bool:=zL nh H&&aO (nh+List.length (Z9X x i)) 40
def Wq(x:ak)(i:Int):Bool:=D.aj (D.ar (jO x i) 0) !=(2:Int)
theorem qbX(x:ak)(g:List ak)(o:List aw)(f:D->Option D)(c:Int)(d:D->Option D)(n:Int)(na np nh nl:Nat)(A P H L:List D)(on:Bool)(i:Int)(ae:PX×S->Prop):(bif Sc i x then bif Pg i x then bif Pf x i then bif D.aj (D.ar (jO x i) 0)==(0:Int) then bif D.aj (D.ar (jO x i) 0)==(0:Int) then bif zL na A&&aO (Z9U na x i) 24 then bif zL np P&&aO (np+List.length (Z9V x i)) 72 then bif on then bif Wq x i then bif Wp nh H x i then∃(aK:ak) (y:aX) (aT:List ak) (aP:List aw) (dS:D->Option D) (ec:Int) (eR:D->Option D) (cz:Int) (bn:Nat) (bp:Nat) (bq:Nat) (aW:Nat) (dv:List D) (dw:List D) (dx:List D) (cu:List D) (aN:Bool) (aI:Int),S.mk 117 (wF on x i) (Za1 g o na x i np nh nl::dV g::dU o::dT f c::Mf na A x i::Me np P x i::Md x i d n::Wo nh H x i L)=S.mk 117 [e9,iB,iK aN,s9,iJ aK,iI aK,sQ aI,(95,Pi.P.d (lM y)),(96,Pi.P.d (D.int .i64 (nM y))),(97,Pi.P.d Z7)] (fQ aT aP bn bp bq aW::dV aT::dU aP::dT dS ec::eZ dv::eY dw::fc eR cz::(7,bU dx)::(8,bU cu)::s8 aK y)/\rW y aW cu/\ ∀(bw:Nat) (L':List D),cZ aN y aW cu bw L'->bif Zj aI then ae (PX.normal,S.mk 117 [e9,iB,iK aN,iJ aK,iI aK,(16,Pi.P.d (Zn aI))] [fQ aT aP bn bp bq bw,dV aT,dU aP,dT dS ec,eZ dv,eY dw,fc eR cz,(7,bU dx),(8,bU L'),(9,lO aK)]) else False else False else∃(aK:ak) (y:aX) (aT:List ak) (aP:List aw) (dS:D->Option D) (ec:Int) (eR:D->Option D) (cz:Int) (bn:Nat) (bp:Nat) (bq:Nat) (aW:Nat) (dv:List D) (dw:List D) (dx:List D) (cu:List D) (aN:Bool) (aI:Int),S.mk 117 (wF on x i) (Wn g o na x i np nh nl::dV g::dU o::dT f c::Mf na A x i::Me np P x i::Md x i d n::(7,bU H)::Ek L x i)=S.mk 117 [e9,iB,iK aN,s9,iJ aK,iI aK,sQ aI,(95,Pi.P.d (lM y)),(96,Pi.P.d (D.int .i64 (nM y))),(97,Pi.P.d Z7)] (fQ aT aP bn bp bq aW::dV aT::dU aP::dT dS ec::eZ dv::eY dw::fc eR cz::(7,bU dx)::(8,bU cu)::s8 aK y)/\rW y aW cu/\ ∀(bw:Nat) (L':List D),cZ aN y aW cu bw L'->bif Zj aI then ae (PX.normal,S.mk 117 [e9,iB,iK aN,iJ aK,iI aK,(16,Pi.P.d (Zn aI))] [fQ aT aP bn bp bq bw,dV aT,dU aP,dT dS ec,eZ dv,eY dw,fc eR cz,(7,bU dx),(8,bU L'),(9,lO aK)]) else False else∃(aK:ak) (y:aX) (aT:List ak) (aP:List aw) (dS:D->Option D) (ec:Int) (eR:D->Option D) (cz:Int) (bn:Nat) (bp:Nat) (bq:Nat) (aW:Nat) (dv:List D) (dw:List D) (dx:List D) (cu:List D) (aN:Bool) (aI:Int),S.mk 117 (wF on x i) (Wn g o na x i np nh nl::dV g::dU o::dT f c::Mf na A x i::Me np P x i::Md x i d n::(7,bU H)::Ek L x i)=S.mk 117 [e9,iB,iK aN,s9,iJ aK,iI aK,sQ aI,(95,Pi.P.d (lM y)),(96,Pi.P.d (D.int .i64 (nM y))),(97,Pi.P.d Z7)] (fQ aT aP bn bp bq aW::dV aT::dU aP::dT dS ec::eZ dv::eY dw::fc eR cz::(7,bU dx)::(8,bU cu)::s8 aK y)/\rW y aW cu/\ ∀(bw:Nat) (L':List D),cZ aN y aW cu bw L'->bif Zj aI then ae (PX.normal,S.mk 117 [e9,iB,iK aN,iJ aK,iI aK,(16,Pi.P.d (Zn aI))] [fQ aT aP bn bp bq bw,dV aT,dU aP,dT dS ec,eZ dv,eY dw,fc eR cz,(7,bU dx),(8,bU L'),(9,lO aK)]) else False else False else False else bif D.aj (D.ar (jO x i) 0)==(1:Int) then bif on then bif zL na A&&aO (Z9U na x i) 24 then bif zL np P&&aO (np+List.length (Z9V x i)) 72 then bif on then bif Wq x i then bif Wp nh H x i then∃(aK:ak) (y:aX) (aT:List ak) (aP:List aw) (dS:D->Option D) (ec:Int) (eR:D->Option D) (cz:Int) (bn:Nat) (bp:Nat) (bq:Nat) (aW:Nat) (dv:List D) (dw:List D) (dx:List D) (cu:List D) (aN:Bool) (aI:Int),S.mk 117 (wF on x i) (Za1 g o na x i np nh nl::dV g::dU o::dT f c::Mf na A x i::Me np P x i::Md x i d n::Wo nh H x i L)=S.mk 117 [e9,iB,iK aN,s9,iJ aK,iI aK,sQ aI,(95,Pi.P.d (lM y)),(96,Pi.P.d (D.int .i64 (nM y))),(97,Pi.P.d Z7)] (fQ aT aP bn bp bq aW::dV aT::dU aP::dT dS ec::eZ dv::eY dw::fc eR cz::(7,bU dx)::(8,bU cu)::s8 aK y)/\rW y aW cu/\ ∀(bw:Nat) (L':List D),cZ aN y aW cu bw L'->bif Zj aI then ae (PX.normal,S.mk 117 [e9,iB,iK aN,iJ aK,iI aK,(16,Pi.P.d (Zn aI))] [fQ aT aP bn bp bq bw,dV aT,dU aP,dT dS ec,eZ dv,eY dw,fc eR cz,(7,bU dx),(8,bU L'),(9,lO aK)]) else False else False else∃(aK:ak) (y:aX) (aT:List ak) (aP:List aw) (dS:D->Option D) (ec:Int) (eR:D->Option D) (cz:Int) (bn:Nat) (bp:Nat) (bq:Nat) (aW:Nat) (dv:List D) (dw:List D) (dx:List D) (cu:List D) (aN:Bool) (aI:Int),S.mk 117 (wF on x i) (Wn g o na x i np nh nl::dV g::dU o::dT f c::Mf na A x i::Me np P x i::Md x i d n::(7,bU H)::Ek L x i)=S.mk 117 [e9,iB,iK aN,s9,iJ aK,iI aK,sQ aI,(95,Pi.P.d (lM y)),(96,Pi.P.d (D.int .i64 (nM y))),(97,Pi.P.d Z7)] (fQ aT aP bn bp bq aW::dV aT::dU aP::dT dS ec::eZ dv::eY dw::fc eR cz::(7,bU dx)::(8,bU cu)::s8 aK y)/\rW y aW cu/\ ∀(bw:Nat) (L':List D),cZ aN y aW cu bw L'->bif Zj aI then ae (PX.normal,S.mk 117 [e9,iB,iK aN,iJ aK,iI aK,(16,Pi.P.d (Zn aI))] [fQ aT aP bn bp bq bw,dV aT,dU aP,dT dS ec,eZ dv,eY dw,fc eR cz,(7,bU dx),(8,bU L'),(9,lO aK)]) else False else∃(aK:ak) (y:aX) (aT:List ak) (aP:List aw) (dS:D->Option D) (ec:Int) (eR:D->Option D) (cz:Int) (bn:Nat) (bp:Nat) (bq:Nat) (aW:Nat) (dv:List D) (dw:List D) (dx:List D) (cu:List D) (aN:Bool) (aI:Int),S.mk 117 (wF on x i) (Wn g o na x i np nh nl::dV g::dU o::dT f c::Mf na A x i::Me np P x i::Md x i d n::(7,bU H)::Ek L x i)=S.mk 117 [e9,iB,iK aN,s9,iJ aK,iI aK,sQ aI,(95,Pi.P.d (lM y)),(96,Pi.P.d (D.int .i64 (nM y))),(97,Pi.P.d Z7)] (fQ aT aP bn bp bq aW::dV aT::dU aP::dT dS ec::eZ dv::eY dw::fc eR cz::(7,bU dx)::(8,bU cu)::s8 aK y)/\rW y aW cu/\ ∀(bw:Nat) (L':List D),cZ aN y aW cu bw L'->bif Zj aI then ae (PX.normal,S.mk 117 [e9,iB,iK aN,iJ aK,iI aK,(16,Pi.P.d (Zn aI))] [fQ aT aP bn bp bq bw,dV aT,dU aP,dT dS ec,eZ dv,eY dw,fc eR cz,(7,bU dx),(8,bU L'),(9,lO aK)]) else False else False else False else bif on then bif Wq x i then bif Wp nh H x i then∃(aK:ak) (y:aX) (aT:List ak) (aP:List aw) (dS:D->Option D) (ec:Int) (eR:D->Option D) (cz:Int) (bn:Nat) (bp:Nat) (bq:Nat) (aW:Nat) (dv:List D) (dw:List D) (dx:List D) (cu:List D) (aN:Bool) (aI:Int),S.mk 117 (wF on x i) (Za9 g o na np nh x i nl::dV g::dU o::dT f c::eZ A::eY P::Md x i d n::Wo nh H x i L)=S.mk 117 [e9,iB,iK aN,s9,iJ aK,iI aK,sQ aI,(95,Pi.P.d (lM y)),(96,Pi.P.d (D.int .i64 (nM y))),(97,Pi.P.d Z7)] (fQ aT aP bn bp bq aW::dV aT::dU aP::dT dS ec::eZ dv::eY dw::fc eR cz::(7,bU dx)::(8,bU cu)::s8 aK y)/\rW y aW cu/\ ∀(bw:Nat) (L':List D),cZ aN y aW cu bw L'->bif Zj aI then ae (PX.normal,S.mk 117 [e9,iB,iK aN,iJ aK,iI aK,(16,Pi.P.d (Zn aI))] [fQ aT aP bn bp bq bw,dV aT,dU aP,dT dS ec,eZ dv,eY dw,fc eR cz,(7,bU dx),(8,bU L'),(9,lO aK)]) else False else False else∃(aK:ak) (y:aX) (aT:List ak) (aP:List aw) (dS:D->Option D) (ec:Int) (eR:D->Option D) (cz:Int) (bn:Nat) (bp:Nat) (bq:Nat) (aW:Nat) (dv:List D) (dw:List D) (dx:List D) (cu:List D) (aN:Bool) (aI:Int),S.mk 117 (wF on x i) (fQ g o na np nh nl::dV g::dU o::dT f c::eZ A::eY P::Md x i d n::(7,bU H)::Ek L x i)=S.mk 117 [e9,iB,iK aN,s9,iJ aK,iI aK,sQ aI,(95,Pi.P.d (lM y)),(96,Pi.P.d (D.int .i64 (nM y))),(97,Pi.P.d Z7)] (fQ aT aP bn bp bq aW::dV aT::dU aP::dT dS ec::eZ dv::eY dw::fc eR cz::(7,bU dx)::(8,bU cu)::s8 aK y)/\rW y aW cu/\ ∀(bw:Nat) (L':List D),cZ aN y aW cu bw L'->bif Zj aI then ae (PX.normal,S.mk 117 [e9,iB,iK aN,iJ aK,iI aK,(16,Pi.P.d (Zn aI))] [fQ aT aP bn bp bq bw,dV aT,dU aP,dT dS ec,eZ dv,eY dw,fc eR cz,(7,bU dx),(8,bU L'),(9,lO aK)]) else False else∃(aK:ak) (y:aX) (aT:List ak) (aP:List aw) (dS:D->Option D) (ec:Int) (eR:D->Option D) (cz:Int) (bn:Nat) (bp:Nat) (bq:Nat) (aW:Nat) (dv:List D) (dw:List D) (dx:List D) (cu:List D) (aN:Bool) (aI:Int),S.mk 117 (wF on x i) (fQ g o na np nh nl::dV g::dU o::dT f c::eZ A::eY P::Md x i d n::(7,bU H)::Ek L x i)=S.mk 117 [e9,iB,iK aN,s9,iJ aK,iI aK,sQ aI,(95,Pi.P.d (lM y)),(96,Pi.P.d (D.int .i64 (nM y))),(97,Pi.P.d Z7)] (fQ aT aP bn bp bq aW::dV aT::dU aP::dT dS ec::eZ dv::eY dw::fc eR cz::(7,bU dx)::(8,bU cu)::s8 aK y)/\rW y aW cu/\ ∀(bw:Nat) (L':List D),cZ aN y aW cu bw L'->bif Zj aI then ae (PX.normal,S.mk 117 [e9,iB,iK aN,iJ aK,iI aK,(16,Pi.P.d (Zn aI))] [fQ aT aP bn bp bq bw,dV aT,dU aP,dT dS ec,eZ dv,eY dw,fc eR cz,(7,bU dx),(8,bU L'),(9,lO aK)]) else False else bif on then bif Wq x i then bif Wp nh H x i then∃(aK:ak) (y:aX) (aT:List ak) (aP:List aw) (dS:D->Option D) (ec:Int) (eR:D->Option D) (cz:Int) (bn:Nat) (bp:Nat) (bq:Nat) (aW:Nat) (dv:List D) (dw:List D) (dx:List D) (cu:List D) (aN:Bool) (aI:Int),S.mk 117 (wF on x i) (Za9 g o na np nh x i nl::dV g::dU o::dT f c::eZ A::eY P::Md x i d n::Wo nh H x i L)=S.mk 117 [e9,iB,iK aN,s9,iJ aK,iI aK,sQ aI,(95,Pi.P.d (lM y)),(96,Pi.P.d (D.int .i64 (nM y))),(97,Pi.P.d Z7)] (fQ aT aP bn bp bq aW::dV aT::dU aP::dT dS ec::eZ dv::eY dw::fc eR cz::(7,bU dx)::(8,bU cu)::s8 aK y)/\rW y aW cu/\ ∀(bw:Nat) (L':List D),cZ aN y aW cu bw L'->bif Zj aI then ae (PX.normal,S.mk 117 [e9,iB,iK aN,iJ aK,iI aK,(16,Pi.P.d (Zn aI))] [fQ aT aP bn bp bq bw,dV aT,dU aP,dT dS ec,eZ dv,eY dw,fc eR cz,(7,bU dx),(8,bU L'),(9,lO aK)]) else False else False else∃(aK:ak) (y:aX) (aT:List ak) (aP:List aw) (dS:D->Option D) (ec:Int) (eR:D->Option D) (cz:Int) (bn:Nat) (bp:Nat) (bq:Nat) (aW:Nat) (dv:List D) (dw:List D) (dx:List D) (cu:List D) (aN:Bool) (aI:Int),S.mk 117 (wF on x i) (fQ g o na np nh nl::dV g::dU o::dT f c::eZ A::eY P::Md x i d n::(7,bU H)::Ek L x i)=S.mk 117 [e9,iB,iK aN,s9,iJ aK,iI aK,sQ aI,(95,Pi.P.d (lM y)),(96,Pi.P.d (D.int .i64 (nM y))),(97,Pi.P.d Z7)] (fQ aT aP bn bp bq aW::dV aT::dU aP::dT dS ec::eZ dv::eY dw::fc eR cz::(7,bU dx)::(8,bU cu)::s8 aK y)/\rW y aW cu/\ ∀(bw:Nat) (L':List D),cZ aN y aW cu bw L'->bif Zj aI then ae (PX.normal,S.mk 117 [e9,iB,iK aN,iJ aK,iI aK,(16,Pi.P.d (Zn aI))] [fQ aT aP bn bp bq bw,dV aT,dU aP,dT dS ec,eZ dv,eY dw,fc eR cz,(7,bU dx),(8,bU L'),(9,lO aK)]) else False else∃(aK:ak) (y:aX) (aT:List ak) (aP:List aw) (dS:D->Option D) (ec:Int) (eR:D->Option D) (cz:Int) (bn:Nat) (bp:Nat) (bq:Nat) (aW:Nat) (dv:List D) (dw:List D) (dx:List D) (cu:List D) (aN:Bool) (aI:Int),S.mk 117 (wF on x i) (fQ g o na np nh nl::dV g::dU o::dT f c::eZ A::eY P::Md x i d n::(7,bU H)::Ek L x i)=S.mk 117 [e9,iB,iK aN,s9,iJ aK,iI aK,sQ aI,(95,Pi.P.d (lM y)),(96,Pi.P.d (D.int .i64 (nM y))),(97,Pi.P.d Z7)] (fQ aT aP bn bp bq aW::dV aT::dU aP::dT dS ec::eZ dv::eY dw::fc eR cz::(7,bU dx)::(8,bU cu)::s8 aK y)/\rW y aW cu/\ ∀(bw:Nat) (L':List D),cZ aN y aW cu bw L'->bif Zj aI then ae (PX.normal,S.mk 117 [e9,iB,iK aN,iJ aK,iI aK,(16,Pi.P.d (Zn aI))] [fQ aT aP bn bp bq bw,dV aT,dU aP,dT dS ec,eZ dv,eY dw,fc eR cz,(7,bU dx),(8,bU L'),(9,lO aK)]) else False else bif D.aj (D.ar (jO x i) 0)==(0:Int) then bif zL na A&&aO (Z9U na x i) 24 then bif zL np P&&aO (np+List.length (Z9V x i)) 72 then bif on then bif Wq x i then bif Wp nh H x i then∃(aK:ak) (y:aX) (aT:List ak) (aP:List aw) (dS:D->Option D) (ec:Int) (eR:D->Option D) (cz:Int) (bn:Nat) (bp:Nat) (bq:Nat) (aW:Nat) (dv:List D) (dw:List D) (dx:List D) (cu:List D) (aN:Bool) (aI:Int),S.mk 117 (wF on x i) (Za1 g o na x i np nh nl::dV g::dU o::dT f c::Mf na A x i::Me np P x i::fc d n::Wo nh H x i L)=S.mk 117 [e9,iB,iK aN,s9,iJ aK,iI aK,sQ aI,(95,Pi.P.d (lM y)),(96,Pi.P.d (D.int .i64 (nM y))),(97,Pi.P.d Z7)] (fQ aT aP bn bp bq aW::dV aT::dU aP::dT dS ec::eZ dv::eY dw::fc eR cz::(7,bU dx)::(8,bU cu)::s8 aK y)/\rW y aW cu/\ ∀(bw:Nat) (L':List D),cZ aN y aW cu bw L'->bif Zj aI then ae (PX.normal,S.mk 117 [e9,iB,iK aN,iJ aK,iI aK,(16,Pi.P.d (Zn aI))] [fQ aT aP bn bp bq bw,dV aT,dU aP,dT dS ec,eZ dv,eY dw,fc eR cz,(7,bU dx),(8,bU L'),(9,lO aK)]) else False else False else∃(aK:ak) (y:aX) (aT:List ak) (aP:List aw) (dS:D->Option D) (ec:Int) (eR:D->Option D) (cz:Int) (bn:Nat) (bp:Nat) (bq:Nat) (aW:Nat) (dv:List D) (dw:List D) (dx:List D) (cu:List D) (aN:Bool) (aI:Int),S.mk 117 (wF on x i) (Wn g o na x i np nh nl::dV g::dU o::dT f c::Mf na A x i::Me np P x i::fc d n::(7,bU H)::Ek L x i)=S.mk 117 [e9,iB,iK aN,s9,iJ aK,iI aK,sQ aI,(95,Pi.P.d (lM y)),(96,Pi.P.d (D.int .i64 (nM y))),(97,Pi.P.d Z7)] (fQ aT aP bn bp bq aW::dV aT::dU aP::dT dS ec::eZ dv::eY dw::fc eR cz::(7,bU dx)::(8,bU cu)::s8 aK y)/\rW y aW cu/\ ∀(bw:Nat) (L':List D),cZ aN y aW cu bw L'->bif Zj aI then ae (PX.normal,S.mk 117 [e9,iB,iK aN,iJ aK,iI aK,(16,Pi.P.d (Zn aI))] [fQ aT aP bn bp bq bw,dV aT,dU aP,dT dS ec,eZ dv,eY dw,fc eR cz,(7,bU dx),(8,bU L'),(9,lO aK)]) else False else∃(aK:ak) (y:aX) (aT:List ak) (aP:List aw) (dS:D->Option D) (ec:Int) (eR:D->Option D) (cz:Int) (bn:Nat) (bp:Nat) (bq:Nat) (aW:Nat) (dv:List D) (dw:List D) (dx:List D) (cu:List D) (aN:Bool) (aI:Int),S.mk 117 (wF on x i) (Wn g o na x i np nh nl::dV g::dU o::dT f c::Mf na A x i::Me np P x i::fc d n::(7,bU H)::Ek L x i)=S.mk 117 [e9,iB,iK aN,s9,iJ aK,iI aK,sQ aI,(95,Pi.P.d (lM y)),(96,Pi.P.d (D.int .i64 (nM y))),(97,Pi.P.d Z7)] (fQ aT aP bn bp bq aW::dV aT::dU aP::dT dS ec::eZ dv::eY dw::fc eR cz::(7,bU dx)::(8,bU cu)::s8 aK y)/\rW y aW cu/\ ∀(bw:Nat) (L':List D),cZ aN y aW cu bw L'->bif Zj aI then ae (PX.normal,S.mk 117 [e9,iB,iK aN,iJ aK,iI aK,(16,Pi.P.d (Zn aI))] [fQ aT aP bn bp bq bw,dV aT,dU aP,dT dS ec,eZ dv,eY dw,fc eR cz,(7,bU dx),(8,bU L'),(9,lO aK)]) else False else False else False else bif D.aj (D.ar (jO x i) 0)==(1:Int) then bif on then bif zL na A&&aO (Z9U na x i) 24 then bif zL np P&&aO (np+List.length (Z9V x i)) 72 then bif on then bif Wq x i then bif Wp nh H x i then∃(aK:ak) (y:aX) (aT:List ak) (aP:List aw) (dS:D->Option D) (ec:Int) (eR:D->Option D) (cz:Int) (bn:Nat) (bp:Nat) (bq:Nat) (aW:Nat) (dv:List D) (dw:List D) (dx:List D) (cu:List D) (aN:Bool) (aI:Int),S.mk 117 (wF on x i) (Za1 g o na x i np nh nl::dV g::dU o::dT f c::Mf na A x i::Me np P x i::fc d n::Wo nh H x i L)=S.mk 117 [e9,iB,iK aN,s9,iJ aK,iI aK,sQ aI,(95,Pi.P.d (lM y)),(96,Pi.P.d (D.int .i64 (nM y))),(97,Pi.P.d Z7)] (fQ aT aP bn bp bq aW::dV aT::dU aP::dT dS ec::eZ dv::eY dw::fc eR cz::(7,bU dx)::(8,bU cu)::s8 aK y)/\rW y aW cu/\ ∀(bw:Nat) (L':List D),cZ aN y aW cu bw L'->bif Zj aI then ae (PX.normal,S.mk 117 [e9,iB,iK aN,iJ aK,iI aK,(16,Pi.P.d (Zn aI))] [fQ aT aP bn bp bq bw,dV aT,dU aP,dT dS ec,eZ dv,eY dw,fc eR cz,(7,bU dx),(8,bU L'),(9,lO aK)]) else False else False else∃(aK:ak) (y:aX) (aT:List ak) (aP:List aw) (dS:D->Option D) (ec:Int) (eR:D->Option D) (cz:Int) (bn:Nat) (bp:Nat) (bq:Nat) (aW:Nat) (dv:List D) (dw:List D) (dx:List D) (cu:List D) (aN:Bool) (aI:Int),S.mk 117 (wF on x i) (Wn g o na x i np nh nl::dV g::dU o::dT f c::Mf na A x i::Me np P x i::fc d n::(7,bU H)::Ek L x i)=S.mk 117 [e9,iB,iK aN,s9,iJ aK,iI aK,sQ aI,(95,Pi.P.d (lM y)),(96,Pi.P.d (D.int .i64 (nM y))),(97,Pi.P.d Z7)] (fQ aT aP bn bp bq aW::dV aT::dU aP::dT dS ec::eZ dv::eY dw::fc eR cz::(7,bU dx)::(8,bU cu)::s8 aK y)/\rW y aW cu/\ ∀(bw:Nat) (L':List D),cZ aN y aW cu bw L'->bif Zj aI then ae (PX.normal,S.mk 117 [e9,iB,iK aN,iJ aK,iI aK,(16,Pi.P.d (Zn aI))] [fQ aT aP bn bp bq bw,dV aT,dU aP,dT dS ec,eZ dv,eY dw,fc eR cz,(7,bU dx),(8,bU L'),(9,lO aK)]) else False else∃(aK:ak) (y:aX) (aT:List ak) (aP:List aw) (dS:D->Option D) (ec:Int) (eR:D->Option D) (cz:Int) (bn:Nat) (bp:Nat) (bq:Nat) (aW:Nat) (dv:List D) (dw:List D) (dx:List D) (cu:List D) (aN:Bool) (aI:Int),S.mk 117 (wF on x i) (Wn g o na x i np nh nl::dV g::dU o::dT f c::Mf na A x i::Me np P x i::fc d n::(7,bU H)::Ek L x i)=S.mk 117 [e9,iB,iK aN,s9,iJ aK,iI aK,sQ aI,(95,Pi.P.d (lM y)),(96,Pi.P.d (D.int .i64 (nM y))),(97,Pi.P.d Z7)] (fQ aT aP bn bp bq aW::dV aT::dU aP::dT dS ec::eZ dv::eY dw::fc eR cz::(7,bU dx)::(8,bU cu)::s8 aK y)/\rW y aW cu/\ ∀(bw:Nat) (L':List D),cZ aN y aW cu bw L'->bif Zj aI then ae (PX.normal,S.mk 117 [e9,iB,iK aN,iJ aK,iI aK,(16,Pi.P.d (Zn aI))] [fQ aT aP bn bp bq bw,dV aT,dU aP,dT dS ec,eZ dv,eY dw,fc eR cz,(7,bU dx),(8,bU L'),(9,lO aK)]) else False else False else False else bif on then bif Wq x i then bif Wp nh H x i then∃(aK:ak) (y:aX) (aT:List ak) (aP:List aw) (dS:D->Option D) (ec:Int) (eR:D->Option D) (cz:Int) (bn:Nat) (bp:Nat) (bq:Nat) (aW:Nat) (dv:List D) (dw:List D) (dx:List D) (cu:List D) (aN:Bool) (aI:Int),S.mk 117 (wF on x i) (Za9 g o na np nh x i nl::dV g::dU o::dT f c::eZ A::eY P::fc d n::Wo nh H x i L)=S.mk 117 [e9,iB,iK aN,s9,iJ aK,iI aK,sQ aI,(95,Pi.P.d (lM y)),(96,Pi.P.d (D.int .i64 (nM y))),(97,Pi.P.d Z7)] (fQ aT aP bn bp bq aW::dV aT::dU aP::dT dS ec::eZ dv::eY dw::fc eR cz::(7,bU dx)::(8,bU cu)::s8 aK y)/\rW y aW cu/\ ∀(bw:Nat) (L':List D),cZ aN y aW cu bw L'->bif Zj aI then ae (PX.normal,S.mk 117 [e9,iB,iK aN,iJ aK,iI aK,(16,Pi.P.d (Zn aI))] [fQ aT aP bn bp bq bw,dV aT,dU aP,dT dS ec,eZ dv,eY dw,fc eR cz,(7,bU dx),(8,bU L'),(9,lO aK)]) else False else False else∃(aK:ak) (y:aX) (aT:List ak) (aP:List aw) (dS:D->Option D) (ec:Int) (eR:D->Option D) (cz:Int) (bn:Nat) (bp:Nat) (bq:Nat) (aW:Nat) (dv:List D) (dw:List D) (dx:List D) (cu:List D) (aN:Bool) (aI:Int),S.mk 117 (wF on x i) (fQ g o na np nh nl::dV g::dU o::dT f c::eZ A::eY P::fc d n::(7,bU H)::Ek L x i)=S.mk 117 [e9,iB,iK aN,s9,iJ aK,iI aK,sQ aI,(95,Pi.P.d (lM y)),(96,Pi.P.d (D.int .i64 (nM y))),(97,Pi.P.d Z7)] (fQ aT aP bn bp bq aW::dV aT::dU aP::dT dS ec::eZ dv::eY dw::fc eR cz::(7,bU dx)::(8,bU cu)::s8 aK y)/\rW y aW cu/\ ∀(bw:Nat) (L':List D),cZ aN y aW cu bw L'->bif Zj aI then ae (PX.normal,S.mk 117 [e9,iB,iK aN,iJ aK,iI aK,(16,Pi.P.d (Zn aI))] [fQ aT aP bn bp bq bw,dV aT,dU aP,dT dS ec,eZ dv,eY dw,fc eR cz,(7,bU dx),(8,bU L'),(9,lO aK)]) else False else∃(aK:ak) (y:aX) (aT:List ak) (aP:List aw) (dS:D->Option D) (ec:Int) (eR:D->Option D) (cz:Int) (bn:Nat) (bp:Nat) (bq:Nat) (aW:Nat) (dv:List D) (dw:List D) (dx:List D) (cu:List D) (aN:Bool) (aI:Int),S.mk 117 (wF on x i) (fQ g o na np nh nl::dV g::dU o::dT f c::eZ A::eY P::fc d n::(7,bU H)::Ek L x i)=S.mk 117 [e9,iB,iK aN,s9,iJ aK,iI aK,sQ aI,(95,Pi.P.d (lM y)),(96,Pi.P.d (D.int .i64 (nM y))),(97,Pi.P.d Z7)] (fQ aT aP bn bp bq aW::dV aT::dU aP::dT dS ec::eZ dv::eY dw::fc eR cz::(7,bU dx)::(8,bU cu)::s8 aK y)/\rW y aW cu/\ ∀(bw:Nat) (L':List D),cZ aN y aW cu bw L'->bif Zj aI then ae (PX.normal,S.mk 117 [e9,iB,iK aN,iJ aK,iI aK,(16,Pi.P.d (Zn aI))] [fQ aT aP bn bp bq bw,dV aT,dU aP,dT dS ec,eZ dv,eY dw,fc eR cz,(7,bU dx),(8,bU L'),(9,lO aK)]) else False else bif on then bif Wq x i then bif Wp nh H x i then∃(aK:ak) (y:aX) (aT:List ak) (aP:List aw) (dS:D->Option D) (ec:Int) (eR:D->Option D) (cz:Int) (bn:Nat) (bp:Nat) (bq:Nat) (aW:Nat) (dv:List D) (dw:List D) (dx:List D) (cu:List D) (aN:Bool) (aI:Int),S.mk 117 (wF on x i) (Za9 g o na np nh x i nl::dV g::dU o::dT f c::eZ A::eY P::fc d n::Wo nh H x i L)=S.mk 117 [e9,iB,iK aN,s9,iJ aK,iI aK,sQ aI,(95,Pi.P.d (lM y)),(96,Pi.P.d (D.int .i64 (nM y))),(97,Pi.P.d Z7)] (fQ aT aP bn bp bq aW::dV aT::dU aP::dT dS ec::eZ dv::eY dw::fc eR cz::(7,bU dx)::(8,bU cu)::s8 aK y)/\rW y aW cu/\ ∀(bw:Nat) (L':List D),cZ aN y aW cu bw L'->bif Zj aI then ae (PX.normal,S.mk 117 [e9,iB,iK aN,iJ aK,iI aK,(16,Pi.P.d (Zn aI))] [fQ aT aP bn bp bq bw,dV aT,dU aP,dT dS ec,eZ dv,eY dw,fc eR cz,(7,bU dx),(8,bU L'),(9,lO aK)]) else False else False else∃(aK:ak) (y:aX) (aT:List ak) (aP:List aw) (dS:D->Option D) (ec:Int) (eR:D->Option D) (cz:Int) (bn:Nat) (bp:Nat) (bq:Nat) (aW:Nat) (dv:List D) (dw:List D) (dx:List D) (cu:List D) (aN:Bool) (aI:Int),S.mk 117 (wF on x i) (fQ g o na np nh nl::dV g::dU o::dT f c::eZ A::eY P::fc d n::(7,bU H)::Ek L x i)=S.mk 117 [e9,iB,iK aN,s9,iJ aK,iI aK,sQ aI,(95,Pi.P.d (lM y)),(96,Pi.P.d (D.int .i64 (nM y))),(97,Pi.P.d Z7)] (fQ aT aP bn bp bq aW::dV aT::dU aP::dT dS ec::eZ dv::eY dw::fc eR cz::(7,bU dx)::(8,bU cu)::s8 aK y)/\rW y aW cu/\ ∀(bw:Nat) (L':List D),cZ aN y aW cu bw L'->bif Zj aI then ae (PX.normal,S.mk 117 [e9,iB,iK aN,iJ aK,iI aK,(16,Pi.P.d (Zn aI))] [fQ aT aP bn bp bq bw,dV aT,dU aP,dT dS ec,eZ dv,eY dw,fc eR cz,(7,bU dx),(8,bU L'),(9,lO aK)]) else False else∃(aK:ak) (y:aX) (aT:List ak) (aP:List aw) (dS:D->Option D) (ec:Int) (eR:D->Option D) (cz:Int) (bn:Nat) (bp:Nat) (bq:Nat) (aW:Nat) (dv:List D) (dw:List D) (dx:List D) (cu:List D) (aN:Bool) (aI:Int),S.mk 117 (wF on x i) (fQ g o na np nh nl::dV g::dU o::dT f c::eZ A::eY P::fc d n::(7,bU H)::Ek L x i)=S.mk 117 [e9,iB,iK aN,s9,iJ aK,iI aK,sQ aI,(95,Pi.P.d (lM y)),(96,Pi.P.d (D.int .i64 (nM y))),(97,Pi.P.d Z7)] (fQ aT aP bn bp bq aW::dV aT::dU aP::dT dS ec::eZ dv::eY dw::fc eR cz::(7,bU dx)::(8,bU cu)::s8 aK y)/\rW y aW cu/\ ∀(bw:Nat) (L':List D),cZ aN y aW cu bw L'->bif Zj aI then ae (PX.normal,S.mk 117 [e9,iB,iK aN,iJ aK,iI aK,(16,Pi.P.d (Zn aI))] [fQ aT aP bn bp bq bw,dV aT,dU aP,dT dS ec,eZ dv,eY dw,fc eR cz,(7,bU dx),(8,bU L'),(9,lO aK)]) else False else False else False else ae (PX.exit 0,S.mk 117 [e9] (fQ g o na np nh nl::dV g::dU o::dT f c::eZ A::eY P::fc d n::Zaa H L)))=(fb [] [] [(13,ah (aL 95 13) Uv)] 95 3 (gaH x g o f c d n na np nh nl A P H L on i)) ae:=by kernel_rfl
def rq(e:av->Option Bool)(y:aX):av->Option Bool:=λz=>if y.kind=0/\y.node=z then some y.dir else e z
def mc(d:D->Option D)(e:av->Option Bool):Prop:= ∀z:av,d (bH z)=(e z).map D.bool
structure rX(t:Tl)(na np nh nl:Nat)(A P H L:List D):Prop where
 na:na=t.a.length
 np:np=t.p.length
 nh:nh=t.h.length
 nl:nl=t.g.length
 a:A=t.a.map bH
 p:P=t.p.map bP
 h:H=t.h.map jM
 l:L=t.g.map jM
abbrev gaE(g:List ak)(o:List aw)(f:D->Option D)(c:Int)(d:D->Option D)(n:Int)(na np nh nl:Nat)(A P H L:List D):S:=⟨117,[(0,.ref 0 0 0)],vwR g o f c d n na np nh nl A P H L⟩
def qeL:S->K (PX×S):=λs ae=> ∃x g o f c d n na np nh nl A P H L on t N e,s.lR [4,5,7,8]=gaH x g o f c d n na np nh nl A P H L on 0/\(rX t na np nh nl A P H L/\mc d e/\vw N t/\N<=300000000/\x.ops.length<=200/\ ∀y∈x.ops,y.cg.length<=200)/\
 ∀d' n' pe pg ph bw A' P' H' L',rX (GY on x.s x.ops t) pe pg ph bw A' P' H' L'->mc d' (x.ops.foldl rq e)->ae (.exit 0,gaE g o f c d' n' pe pg ph bw A' P' H' L')
abbrev qhM(g:List ak)(o:List aw)(f:D->Option D)(c:Int)(d:D->Option D)(n:Int)(na np nh nl:Nat)(A P H L:List D):List (Nat×En):=[(0,⟨0,some 0,vwB g.length o.length na np nh nl⟩),(1,⟨0,some 1,kV false g⟩),(2,⟨0,some 2,mA false o⟩),(3,⟨0,some 3,onM f c⟩),(4,⟨0,some 4,.arr 50 false A⟩),(5,⟨0,some 5,.arr 104 false P⟩),(6,⟨0,some 6,qaw d n⟩),(7,⟨0,some 7,.arr 106 false H⟩),(8,⟨0,some 8,.arr 106 false L⟩)]
def Zab(x:ak):List (Nat×P):=[iJ x,iI x,(16,P.d Z7)]
theorem qjM(x:ak)(g:List ak)(o:List aw)(f:D->Option D)(c:Int)(d:D->Option D)(n:Int)(na np nh nl:Nat)(A P H L:List D)(ae:Pi.P×List (Nat×En)->Prop):(bif cx PR (167:TypeId) (cL (f (D.agg [iz x,il x])) (D.agg [])) then∃(aK:ak) (aT:List ak) (aP:List aw) (dS:D->Option D) (ec:Int) (eR:D->Option D) (cz:Int) (bn:Nat) (bp:Nat) (bq:Nat) (aW:Nat) (dv:List D) (dw:List D) (dx:List D) (cu:List D) (on:Bool) (t:Tl) (N:Nat) (e:av->Option Bool),S.mk 117 (e9::iB::(4,Pi.P.d (D.bool (Option.isSome (f (D.agg [iz x,il x])))))::Zab x) [fQ g o na np nh nl,dV g,dU o,dT f c,eZ A,eY P,fc d n,(7,bU H),(8,bU L),(9,lO x)]=S.mk 117 (e9::iB::iK on::Zab aK) [fQ aT aP bn bp bq aW,dV aT,dU aP,dT dS ec,eZ dv,eY dw,fc eR cz,(7,bU dx),(8,bU cu),(9,lO aK)]/\(rX t bn bp bq aW dv dw dx cu/\mc eR e/\vw N t/\N<=300000000/\Z4f aK/\ ∀(y:aX),y∈ak.ops aK->List.length (aX.cg y)<=200)/\ ∀(d':D->Option D) (n':Int) (pe pg ph bw:Nat) (A' P' H' L':List D),rX (GY on (ak.s aK) (ak.ops aK) t) pe pg ph bw A' P' H' L'->mc d' (List.foldl rq e (ak.ops aK))->ae (Pi.P.cT [],(0,En.mk 0 (some 0) (Obj.box (120:TypeId) [mZ aT,Co aP,Cn,Pi.P.sl 5 0 pe,Pi.P.sl 6 0 pg,Pi.P.mp 4 0,Pi.P.sl 7 0 ph,Pi.P.sl 8 0 bw]))::dV aT::dU aP::dT dS ec::(4,En.mk 0 (some 6) (Obj.map 50 d' n' false))::(5,ET A')::(6,ES P')::Zaa H' L') else False)=(sH [] [] [(3,ah (aL 95 3) qeL)] 95 [.ref 0 0 0,.d (aQ x)] (qhM g o f c d n na np nh nl A P H L)) ae:=by kernel_rfl
theorem eA{n m b:Nat}{l:List D}{z:D}(h:n=m)(hl:l.length=m)(hb:m<=1000000000000)(hz:b<=100):(Nat.ble n l.length&&aO (n+List.length [z]) b)=true:=by rw[zab];refine⟨by rw[zb0];omega,da (zaG (Nat.mul_le_mul (by simp only[zap,zat];omega:n+List.length [z]<=1000000000001) hz) (by omega)) (by simp only[zap,zat];omega)⟩
theorem rX.go{t:Tl}{na np nh nl:Nat}{A P H L:List D}(h:rX t na np nh nl A P H L){on:Bool}{s:aw}{y:aX}{k:Nat}{i:Int}(hi:(k:Int)=i){bw:Nat}{L':List D}(hg:cZ on y nl L bw L'):
  (fV on y=true->gx on y=true->rX (SV on s t y k) (na+1) (np+1) (nh+1) bw (List.take na A++[bH (s.1,s.2,i)]) (List.take np P++[bP (sM y)]) (List.take nh H++[jM (y.node,s)]) L')/\
  (fV on y=true->gx on y=false->rX (SV on s t y k) (na+1) (np+1) nh bw (List.take na A++[bH (s.1,s.2,i)]) (List.take np P++[bP (sM y)]) H L')/\
  (fV on y=false->gx on y=true->rX (SV on s t y k) na np (nh+1) bw A P (List.take nh H++[jM (y.node,s)]) L')/\
  (fV on y=false->gx on y=false->rX (SV on s t y k) na np nh bw A P H L'):=by
 obtain⟨rfl,rfl,rfl,rfl,rfl,rfl,rfl,rfl⟩:=h;obtain⟨rfl,rfl⟩:=hg;subst hi;have hl:t.g.map jM++(if on=true then(Ho y).map jM else [])=(if on=true then t.g++y.cg.map (λd=>(y.node,d)) else t.g).map jM:=by
  cases on
  ·simp
  simp[Ho]
 have t1:List.take t.a.length (t.a.map bH)=t.a.map bH:=zah (by simp);have t2:List.take t.p.length (t.p.map bP)=t.p.map bP:=zah (by simp);have t3:List.take t.h.length (t.h.map jM)=t.h.map jM:=zah (by simp);rw[t1,t2,t3,hl];refine⟨λh1 h2=> ?_,λh1 h2=> ?_,λh1 h2=> ?_,λh1 h2=> ?_⟩<;>(unfold SV;rw[h1,h2];constructor<;>simp)
theorem qeM(a b:av):D.oO (bH a) (bH b)=(a==b):=by rw[zaH,D.hQ,zaT];exact⟨qbU,λh=>by rw[h]⟩
theorem mc.mk{d:D->Option D}{e:av->Option Bool}(h:mc d e){y:aX}(hk:y.kind=0):mc (λk'=>bif D.oO (bH y.node) k' then some (.bool y.dir) else d k') (rq e y):=λz=>by
 unfold rq;show(bif D.oO (bH y.node) (bH z) then some (D.bool y.dir) else d (bH z))=_;rw[qeM,h z];by_cases hz:y.node=z
 ·rw[zao ⟨hk,hz⟩,show(y.node==z)=true by simpa using hz];rfl
 rw[zal (λhh=>hz hh.2),show(y.node==z)=false by simpa using hz];rfl
theorem mc.no{d:D->Option D}{e:av->Option Bool}(h:mc d e){y:aX}(hk: ¬y.kind=0):mc d (rq e y):=λz=>by unfold rq;rw[h z,zal (λhh=>hk hh.1)]
structure GaP where
 x:ak
 y:aX
 g:List ak
 o:List aw
 f:D->Option D
 c:Int
 d:D->Option D
 n:Int
 na:Nat
 np:Nat
 nh:Nat
 A:List D
 P:List D
 H:List D
 on:Bool
 i:Int
 L:List D
abbrev GaB:=(D->Option D)×Int×Nat×Nat×Nat×Nat×List D×List D×List D×List D
structure GaQ where
 x:ak
 g:List ak
 o:List aw
 f:D->Option D
 c:Int
 on:Bool
 t:Tl
 N:Nat
 e:av->Option Bool
section
variable{X:XF}{w0:World}(hX:dC PR w0 X.cf)
include hX
theorem qeN:LN w0 95 13 (ah (aL 95 13) Uv):=LN.qhK hX [4,5,7,8] (H:=[]) (HN:=[]) (hk:=[]) EJ (by kernel_rfl) (by kernel_rfl) (by kernel_rfl) .nil .nil .nil
 (A:=GaP) (B:=Nat×List D) (λa b j=>qeK a.x a.y a.g a.o a.f a.c a.d a.n a.na a.np a.nh b.1 a.A a.P a.H b.2 a.on a.i j) (λa=>a.y.cg.length)
 (λa k b=>(a.y.cg.length<=200/\a.L.length<=100000000000)/\b.1=b.2.length/\b.2=a.L++(if a.on=true then(a.y.cg.take k).map (λs=>jM (a.y.node,s)) else []))
 (λa x=> ∃bw L',cZ a.on a.y a.L.length a.L bw L'/\x=(.exit 2,gaH a.x a.g a.o a.f a.c a.d a.n a.na a.np a.nh bw a.A a.P a.H L' a.on a.i))
 (by
  rintro a ⟨nl,L⟩ j ae h0 Ff Ce ⟨⟨hd,hL⟩,rH,Kd⟩ hn ho;dsimp only at*
  (rw[<-Uu];delta po kc ke oD q9 kg il kh iz lO Zt sQ wX iI iJ fI iK iB bT e9 Ut Cn dR Co dA mZ fQ R7 wS wT wU Ab AZ Ac A0 A1 lM Ad Ae Af Ag Ah vf vg vi wV Wl s8 bU fc ES eY ET eZ dT dX dU cr dV Zn nM s9 Z9E Za Z9 Zj Zg Z9v Wm zL)
  have e1:D.nth (a.y.cg.map bh) j.toNat=bh a.y.cg[j.toNat]:=ay _ _ _ Ce;have mb:(a.y.cg.take (j.toNat+1))=a.y.cg.take j.toNat++[a.y.cg[j.toNat]]:=zag Ce;rw[e1];generalize a.y.cg[j.toNat]=z at*
  have hLl:L.length<=a.L.length+200:=by
   rw[Kd,zan];split
   ·rw[zaa,zay];omega
   simp
  have Lb:j<((a.y.cg.map bh).length:Int):=by rw[zaa];exact Ff
  refine bz Lb (ao ⟨h0,Lb⟩ (aq (jI _) (az (λEO=>aq (eA rH rfl (by omega) (by decide)) (ao (by omega) (hn (nl+1,List.take nl L++[jM (a.y.node,z)]) _ rfl ⟨⟨hd,hL⟩,?_,?_⟩))) λqeO=>ao (by omega) (hn (nl,L) _ rfl ⟨⟨hd,hL⟩,rH,?_⟩))))
  ·simp[rH]
  ·rw[EO,zao rfl] at Kd⊢;rw[mb,rH,zaj,Kd,zaB,za0];rfl
  rw[qeO] at Kd⊢;simpa using Kd)
 (by
  rintro a ⟨nl,L⟩ j ae hj ⟨⟨hd,hL⟩,rH,Kd⟩ ho;dsimp only at*
  (rw[<-Uu];delta po kc ke oD q9 kg il kh iz lO Zt sQ wX iI iJ fI iK iB bT e9 Ut Cn dR Co dA mZ fQ R7 wS wT wU Ab AZ Ac A0 A1 lM Ad Ae Af Ag Ah vf vg vi wV Wl s8 bU fc ES eY ET eZ dT dX dU cr dV Zn nM s9 Z9E Za Z9 Zj Zg Z9v Wm zL)
  refine kA (by simp only[zaa];omega) (ho _ (λh=>by cases h) ⟨nl,L,⟨rH,?_⟩,rfl⟩);rw[Kd,zaj];cases a.on
  ·rfl
  simp[Ho,zb6])
 (by rintro s ae ⟨x,y,g,o,f,c,d,n,na,np,nh,nl,A,P,H,L,on,i,hs,⟨h1,h2,h3⟩,hp⟩;refine⟨⟨x,y,g,o,f,c,d,n,na,np,nh,A,P,H,on,i,L⟩,(nl,L),hs,⟨⟨h1,by rw[<-h2];exact h3⟩,h2,by simp⟩,?_⟩;rintro z ⟨bw,L',hg,rfl⟩;exact hp bw L' ⟨hg.1,hg.2⟩)
theorem qhN:LN w0 95 3 (ah (aL 95 3) qeL):=LN.qhK hX [4,5,7,8] (H:=[]) (HN:=[]) (hk:=[(13,ah (aL 95 13) Uv)]) EJ (by kernel_rfl) (by kernel_rfl) (by kernel_rfl) .nil .nil (.cons (qeN hX) .nil)
 (A:=GaQ) (B:=GaB) (λa b i=>gaH a.x a.g a.o a.f a.c b.1 b.2.1 b.2.2.1 b.2.2.2.1 b.2.2.2.2.1 b.2.2.2.2.2.1 b.2.2.2.2.2.2.1 b.2.2.2.2.2.2.2.1 b.2.2.2.2.2.2.2.2.1 b.2.2.2.2.2.2.2.2.2 a.on i) (λa=>a.x.ops.length)
 (λa k b=>(vw a.N a.t/\a.N<=300000000/\a.x.ops.length<=200/\ ∀y∈a.x.ops,y.cg.length<=200)/\rX (GY a.on a.x.s (a.x.ops.take k) a.t) b.2.2.1 b.2.2.2.1 b.2.2.2.2.1 b.2.2.2.2.2.1 b.2.2.2.2.2.2.1 b.2.2.2.2.2.2.2.1 b.2.2.2.2.2.2.2.2.1 b.2.2.2.2.2.2.2.2.2/\mc b.1 ((a.x.ops.take k).foldl rq a.e))
 (λa x=> ∃d' n' pe pg ph bw A' P' H' L',rX (GY a.on a.x.s a.x.ops a.t) pe pg ph bw A' P' H' L'/\mc d' (a.x.ops.foldl rq a.e)/\x=(.exit 0,gaE a.g a.o a.f a.c d' n' pe pg ph bw A' P' H' L'))
 (by
  rintro⟨x,g,o,f,c,on,t,N,e⟩ ⟨d,n,na,np,nh,nl,A,P,H,L⟩ i ae h0 bR aY ⟨hc,hR,hD⟩ hn ho;dsimp only at*
  (rw[<-qbX];delta bU Zaa kg il kh iz Zg jO R8 R9 Sb Z9X Za0 Cn dR Co dA mZ Za9 Yc Yd Ye po kc ke oD q9 lO Ek Ut Z9V Zt ZE Z9U Wn Zn Za Z9 Zj rW R7 wS wT wU Ab AZ Ac A0 A1 lM Ad Ae Af Ag Ah vf vg vi wV Wl s8 fc ES eY ET eZ fQ Z7 nM sQ wX iI iJ s9 fI iK iB bT e9 Wo Z5T Md Me Mf dT dX dU cr dV Za1 wF zL Wp Wq Pf Pg Sc)
  have kN:=(hc.1.ops (on:=on) (s:=x.s) hc.2.2.2 i.toNat (by omega)).mono (m:=300000200) (by omega);have e1:D.nth (x.ops.map eN) i.toNat=eN x.ops[i.toNat]:=ay _ _ _ aY;have jQ:=zA (on:=on) (s:=x.s) (t:=t) aY;have Oz:(x.ops.take (i.toNat+1)).foldl rq e=rq ((x.ops.take i.toNat).foldl rq e) x.ops[i.toNat]:=by rw[zag aY,za3];rfl
  have ix:=hc.2.2.2 _ (zas aY);have VY:((i.toNat:Nat):Int)=i:=by omega
  rw[e1];generalize x.ops[i.toNat]=y at jQ Oz ix⊢;generalize GY on x.s (x.ops.take i.toNat) t=t1 at jQ hR kN;generalize (x.ops.take i.toNat).foldl rq e=e2 at Oz hD;have u0:D.aj (D.ar (eN y) 0)=y.kind:=rfl;have tE:=JJ y;simp only[u0];have gq:i<((x.ops.map eN).length:Int):=by rw[zaa];exact bR
  refine bz gq (ao ⟨h0,gq⟩ (aq tE ?_));clear e1 tE;by_cases gB:y.kind=0
  ·rw[show(y.kind==0)=true by simp[gB],show(y.kind==1)=false by simp[gB],show(y.kind !=2)=true by simp[gB]];cases on with
   |true=>simp only[zbT,zbn];exact aq (eA hR.na (by rw[hR.a,zaa]) (by have:=kN.2.1;omega) (by decide)) (aq (eA hR.np (by rw[hR.p,zaa]) (by have:=kN.1;have:=kN.2.1;omega) (by decide)) (aq (eA hR.nh (by rw[hR.h,zaa]) (by have:=kN.2.2.1;omega) (by decide)) (⟨x,y,g,o,f,c,(λk'=>bif D.oO (bH y.node) k' then some (.bool y.dir) else d k'),(bif (d (bH y.node)).isSome then n else n+1),na+1,np+1,nh+1,nl,List.take na A++[bH (x.s.1,x.s.2,i)],List.take np P++[bP (sM y)],List.take nh H++[jM (y.node,x.s)],L,true,i,rfl,⟨ix,hR.nl.trans (by rw[hR.l,zaa]),by have:=hR.nl;have:=kN.2.2.2;omega⟩,λbw L' mW=>ao (by omega) (hn ((λk'=>bif D.oO (bH y.node) k' then some (.bool y.dir) else d k'),(bif (d (bH y.node)).isSome then n else n+1),na+1,np+1,nh+1,bw,List.take na A++[bH (x.s.1,x.s.2,i)],List.take np P++[bP (sM y)],List.take nh H++[jM (y.node,x.s)],L') _ rfl ⟨hc,by rw[jQ];exact(hR.go VY mW).1 (by simp[fV,gB]) (by simp[gx,gB]),by rw[Oz];exact hD.mk gB⟩)⟩)))
   |false=>simp only[zbT,zbn];exact aq (eA hR.na (by rw[hR.a,zaa]) (by have:=kN.2.1;omega) (by decide)) (aq (eA hR.np (by rw[hR.p,zaa]) (by have:=kN.1;have:=kN.2.1;omega) (by decide)) (⟨x,y,g,o,f,c,(λk'=>bif D.oO (bH y.node) k' then some (.bool y.dir) else d k'),(bif (d (bH y.node)).isSome then n else n+1),na+1,np+1,nh,nl,List.take na A++[bH (x.s.1,x.s.2,i)],List.take np P++[bP (sM y)],H,L,false,i,rfl,⟨ix,hR.nl.trans (by rw[hR.l,zaa]),by have:=hR.nl;have:=kN.2.2.2;omega⟩,λbw L' mW=>ao (by omega) (hn ((λk'=>bif D.oO (bH y.node) k' then some (.bool y.dir) else d k'),(bif (d (bH y.node)).isSome then n else n+1),na+1,np+1,nh,bw,List.take na A++[bH (x.s.1,x.s.2,i)],List.take np P++[bP (sM y)],H,L') _ rfl ⟨hc,by rw[jQ];exact(hR.go VY mW).2.1 (by simp[fV,gB]) (by simp[gx,gB]),by rw[Oz];exact hD.mk gB⟩)⟩))
  by_cases fh:y.kind=1
  ·rw[show(y.kind==0)=false by simp[gB],show(y.kind==1)=true by simp[fh],show(y.kind !=2)=true by simp[fh]];cases on with
   |true=>simp only[zbT,zbn];exact aq (eA hR.na (by rw[hR.a,zaa]) (by have:=kN.2.1;omega) (by decide)) (aq (eA hR.np (by rw[hR.p,zaa]) (by have:=kN.1;have:=kN.2.1;omega) (by decide)) (aq (eA hR.nh (by rw[hR.h,zaa]) (by have:=kN.2.2.1;omega) (by decide)) (⟨x,y,g,o,f,c,d,n,na+1,np+1,nh+1,nl,List.take na A++[bH (x.s.1,x.s.2,i)],List.take np P++[bP (sM y)],List.take nh H++[jM (y.node,x.s)],L,true,i,rfl,⟨ix,hR.nl.trans (by rw[hR.l,zaa]),by have:=hR.nl;have:=kN.2.2.2;omega⟩,λbw L' mW=>ao (by omega) (hn (d,n,na+1,np+1,nh+1,bw,List.take na A++[bH (x.s.1,x.s.2,i)],List.take np P++[bP (sM y)],List.take nh H++[jM (y.node,x.s)],L') _ rfl ⟨hc,by rw[jQ];exact(hR.go VY mW).1 (by simp[fV,fh]) (by simp[gx,fh]),by rw[Oz];exact hD.no gB⟩)⟩)))
   |false=>simp only[zbT,zbn];exact⟨x,y,g,o,f,c,d,n,na,np,nh,nl,A,P,H,L,false,i,rfl,⟨ix,hR.nl.trans (by rw[hR.l,zaa]),by have:=hR.nl;have:=kN.2.2.2;omega⟩,λbw L' mW=>ao (by omega) (hn (d,n,na,np,nh,bw,A,P,H,L') _ rfl ⟨hc,by rw[jQ];exact(hR.go VY mW).2.2.2 (by simp[fV,fh]) (by simp[gx,fh]),by rw[Oz];exact hD.no gB⟩)⟩
  by_cases sW:y.kind=2
  ·rw[show(y.kind==0)=false by simp[gB],show(y.kind==1)=false by simp[fh],show(y.kind !=2)=false by simp[sW]];cases on with
   |true=>simp only[zbn];exact⟨x,y,g,o,f,c,d,n,na,np,nh,nl,A,P,H,L,true,i,rfl,⟨ix,hR.nl.trans (by rw[hR.l,zaa]),by have:=hR.nl;have:=kN.2.2.2;omega⟩,λbw L' mW=>ao (by omega) (hn (d,n,na,np,nh,bw,A,P,H,L') _ rfl ⟨hc,by rw[jQ];exact(hR.go VY mW).2.2.2 (by simp[fV,sW]) (by simp[gx,sW]),by rw[Oz];exact hD.no gB⟩)⟩
   |false=>simp only[zbn];exact⟨x,y,g,o,f,c,d,n,na,np,nh,nl,A,P,H,L,false,i,rfl,⟨ix,hR.nl.trans (by rw[hR.l,zaa]),by have:=hR.nl;have:=kN.2.2.2;omega⟩,λbw L' mW=>ao (by omega) (hn (d,n,na,np,nh,bw,A,P,H,L') _ rfl ⟨hc,by rw[jQ];exact(hR.go VY mW).2.2.2 (by simp[fV,sW]) (by simp[gx,sW]),by rw[Oz];exact hD.no gB⟩)⟩
  rw[show(y.kind==0)=false by simp[gB],show(y.kind==1)=false by simp[fh],show(y.kind !=2)=true by simp[sW]];cases on with
  |true=>simp only[zbn];exact aq (eA hR.nh (by rw[hR.h,zaa]) (by have:=kN.2.2.1;omega) (by decide)) (⟨x,y,g,o,f,c,d,n,na,np,nh+1,nl,A,P,List.take nh H++[jM (y.node,x.s)],L,true,i,rfl,⟨ix,hR.nl.trans (by rw[hR.l,zaa]),by have:=hR.nl;have:=kN.2.2.2;omega⟩,λbw L' mW=>ao (by omega) (hn (d,n,na,np,nh+1,bw,A,P,List.take nh H++[jM (y.node,x.s)],L') _ rfl ⟨hc,by rw[jQ];exact(hR.go VY mW).2.2.1 (by simp[fV,gB,fh]) (by simp[gx,sW]),by rw[Oz];exact hD.no gB⟩)⟩)
  |false=>simp only[zbn];exact⟨x,y,g,o,f,c,d,n,na,np,nh,nl,A,P,H,L,false,i,rfl,⟨ix,hR.nl.trans (by rw[hR.l,zaa]),by have:=hR.nl;have:=kN.2.2.2;omega⟩,λbw L' mW=>ao (by omega) (hn (d,n,na,np,nh,bw,A,P,H,L') _ rfl ⟨hc,by rw[jQ];exact(hR.go VY mW).2.2.2 (by simp[fV,gB]) (by simp[gx]),by rw[Oz];exact hD.no gB⟩)⟩)
 (by
  rintro⟨x,g,o,f,c,on,t,N,e⟩ ⟨d,n,na,np,nh,nl,A,P,H,L⟩ i ae hi ⟨hc,hR,hD⟩ ho;dsimp only at*
  (rw[<-qbX];delta bU Zaa kg il kh iz Zg jO R8 R9 Sb Z9X Za0 Cn dR Co dA mZ Za9 Yc Yd Ye po kc ke oD q9 lO Ek Ut Z9V Zt ZE Z9U Wn Zn Za Z9 Zj rW R7 wS wT wU Ab AZ Ac A0 A1 lM Ad Ae Af Ag Ah vf vg vi wV Wl s8 fc ES eY ET eZ fQ Z7 nM sQ wX iI iJ s9 fI iK iB bT e9 Wo Z5T Md Me Mf dT dX dU cr dV Za1 wF zL Wp Wq Pf Pg Sc)
  rw[zaj] at hR hD;exact kA (by simp only[zaa];omega) (ho _ (λh=>by cases h) ⟨d,n,na,np,nh,nl,A,P,H,L,hR,hD,rfl⟩))
 (by rintro s ae ⟨x,g,o,f,c,d,n,na,np,nh,nl,A,P,H,L,on,t,N,e,hs,⟨h1,h2,h3⟩,hp⟩;refine⟨⟨x,g,o,f,c,on,t,N,e⟩,(d,n,na,np,nh,nl,A,P,H,L),hs,⟨h3,h1,h2⟩,?_⟩;rintro z ⟨d',n',pe,pg,ph,bw,A',P',H',L',g1,g2,rfl⟩;exact hp d' n' pe pg ph bw A' P' H' L' g1 g2)
end
end Pi
