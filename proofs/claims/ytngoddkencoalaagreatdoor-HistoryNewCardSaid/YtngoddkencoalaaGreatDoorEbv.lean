/- The texts Ef2 Ef2H Ef3 Ef3H VwP TrC T6 T6H T7 T7H T8 T8H T9 T9H RfP Rd RdH Ef4 Ef4H Ef5 Ef5H Ef6H Hi2 Hi2H Hi3H Hi4H Hi5 Hi5H UtP Vw1 Vw1H Rp RpH. -/
import Derived.Test.YtngoddkencoalaaGreatDoorEbu
import Derived.Lib.IndexAny
namespace Pi
open Go Go.Proofs
set_option maxRecDepth 100000
set_option maxHeartbeats 0
abbrev fBk:Nat:=153
abbrev bkI(hs:List Hd)(i:Int):S:=⟨19,[(0,.mp 0 0),(1,.ref 1 0 0),(3,iD i)],[(0,⟨0,some 1,.ew⟩),(1,⟨0,some 0,.box 128 [.d (.sl 4 (hs.map bN))]⟩)]⟩
abbrev bkE(hs:List Hd):S:=⟨19,[(0,.mp 0 0),(1,.ref 1 0 0)],[(0,⟨0,some 1,.ew⟩),(1,⟨0,some 0,.box 128 [.d (.sl 4 (hs.map bN))]⟩)]⟩
abbrev onC(out:List az)(n:Nat)(f:D->Option D)(c:Int):S:=
 ⟨37,[(5,.ref 0 0 0),(6,.ref 2 0 0)],[(0,⟨0,none,.box 51 [.sl 1 0 n]⟩),(1,⟨0,none,.arr 30 false (out.map bh)⟩),(2,⟨0,none,.box 98 [.mp 3 0]⟩),(3,⟨0,none,mpS f c⟩)]⟩
abbrev X3:Option (List Nat×List Nat):=some ([5,6],[5,6])
theorem X4(hs:List Hd)(out:List az)(n:Nat)(f:D->Option D)(c:Int)(i:Int)(ae:PX×S×PX×S->Prop):(bif decide (i>=(0:Int)) then bif decide ((0:Int)<=i/\i<(↑(List.length (List.map bN hs)):Int)) then bif cD PR 132 (D.nth (List.map bN hs) (Int.toNat i)) then bif cD PR 3 (cF (f (D.agg [D.int IntKind.i64 (D.aj (D.ar (D.nth (List.map bN hs) (Int.toNat i)) 0)),D.int IntKind.i64 (D.aj (D.ar (D.nth (List.map bN hs) (Int.toNat i)) 1))])) (D.int IntKind.i64 (0:Int))) then bif decide (D.aj (cF (f (D.agg [D.int IntKind.i64 (D.aj (D.ar (D.nth (List.map bN hs) (Int.toNat i)) 0)),D.int IntKind.i64 (D.aj (D.ar (D.nth (List.map bN hs) (Int.toNat i)) 1))])) (D.int IntKind.i64 (0:Int)))>(0:Int)) then bif decide ((-9223372036854775808:Int)<=i-(1:Int)/\i-(1:Int)<=(9223372036854775807:Int)) then ae (PX.normal,S.mk 19 [(0,P.mp 0 0),(1,P.ref 1 0 0),(3,P.d (D.int IntKind.i64 (i-(1:Int))))] [(0,En.mk 0 (some 1) Obj.ew),(1,En.mk 0 (some 0) (Obj.box 128 [P.d (D.sl 4 (List.map bN hs))]))],PX.normal,S.mk 37 [(5,P.ref 0 0 0),(6,P.ref 2 0 0)] [(0,En.mk 0 none (Obj.box 51 [P.sl 1 0 n])),(1,En.mk 0 none (Obj.arr 30 false (List.map bh out))),(2,En.mk 0 none (Obj.box 98 [P.mp 3 0])),(3,En.mk 0 none (Obj.map 30 f c false))]) else False else bif Nat.ble n (List.length (List.map bh out))&&aM (n+List.length [D.agg [D.int IntKind.i64 (D.aj (D.ar (D.nth (List.map bN hs) (Int.toNat i)) 0)),D.int IntKind.i64 (D.aj (D.ar (D.nth (List.map bN hs) (Int.toNat i)) 1))]]) 16 then bif cD PR 3 (cF (f (D.agg [D.int IntKind.i64 (D.aj (D.ar (D.nth (List.map bN hs) (Int.toNat i)) 2)),D.int IntKind.i64 (D.aj (D.ar (D.nth (List.map bN hs) (Int.toNat i)) 3))])) (D.int IntKind.i64 (0:Int))) then bif decide ((-9223372036854775808:Int)<=D.aj (cF (f (D.agg [D.int IntKind.i64 (D.aj (D.ar (D.nth (List.map bN hs) (Int.toNat i)) 2)),D.int IntKind.i64 (D.aj (D.ar (D.nth (List.map bN hs) (Int.toNat i)) 3))])) (D.int IntKind.i64 (0:Int)))+(1:Int)/\D.aj (cF (f (D.agg [D.int IntKind.i64 (D.aj (D.ar (D.nth (List.map bN hs) (Int.toNat i)) 2)),D.int IntKind.i64 (D.aj (D.ar (D.nth (List.map bN hs) (Int.toNat i)) 3))])) (D.int IntKind.i64 (0:Int)))+(1:Int)<=(9223372036854775807:Int)) then bif decide ((-9223372036854775808:Int)<=i-(1:Int)/\i-(1:Int)<=(9223372036854775807:Int)) then ae (PX.normal,S.mk 19 [(0,P.mp 0 0),(1,P.ref 1 0 0),(3,P.d (D.int IntKind.i64 (i-(1:Int))))] [(0,En.mk 0 (some 1) Obj.ew),(1,En.mk 0 (some 0) (Obj.box 128 [P.d (D.sl 4 (List.map bN hs))]))],PX.normal,S.mk 37 [(5,P.ref 0 0 0),(6,P.ref 2 0 0)] [(0,En.mk 0 none (Obj.box 51 [P.sl 1 0 (n+List.length [D.agg [D.int IntKind.i64 (D.aj (D.ar (D.nth (List.map bN hs) (Int.toNat i)) 0)),D.int IntKind.i64 (D.aj (D.ar (D.nth (List.map bN hs) (Int.toNat i)) 1))]])])),(1,En.mk 0 none (Obj.arr 30 false (List.take n (List.map bh out)++[D.agg [D.int IntKind.i64 (D.aj (D.ar (D.nth (List.map bN hs) (Int.toNat i)) 0)),D.int IntKind.i64 (D.aj (D.ar (D.nth (List.map bN hs) (Int.toNat i)) 1))]]))),(2,En.mk 0 none (Obj.box 98 [P.mp 3 0])),(3,En.mk 0 none (Obj.map 30 (λ(k':D)=>bif D.ob (D.agg [D.int IntKind.i64 (D.aj (D.ar (D.nth (List.map bN hs) (Int.toNat i)) (0+1+1))),D.int IntKind.i64 (D.aj (D.ar (D.nth (List.map bN hs) (Int.toNat i)) (0+1+1+1)))]) k' then some (D.int IntKind.i64 (D.aj (cF (f (D.agg [D.int IntKind.i64 (D.aj (D.ar (D.nth (List.map bN hs) (Int.toNat i)) (0+1+1))),D.int IntKind.i64 (D.aj (D.ar (D.nth (List.map bN hs) (Int.toNat i)) (0+1+1+1)))])) (D.int IntKind.i64 (0:Int)))+(1:Int))) else cZ (D.agg [D.int IntKind.i64 (D.aj (D.ar (D.nth (List.map bN hs) (Int.toNat i)) (0+1+1))),D.int IntKind.i64 (D.aj (D.ar (D.nth (List.map bN hs) (Int.toNat i)) (0+1+1+1)))]) (cF (f (D.agg [D.int IntKind.i64 (D.aj (D.ar (D.nth (List.map bN hs) (Int.toNat i)) (0+1+1))),D.int IntKind.i64 (D.aj (D.ar (D.nth (List.map bN hs) (Int.toNat i)) (0+1+1+1)))])) (D.int IntKind.i64 (0:Int))) f k') (bif Option.isSome (f (D.agg [D.int IntKind.i64 (D.aj (D.ar (D.nth (List.map bN hs) (Int.toNat i)) 2)),D.int IntKind.i64 (D.aj (D.ar (D.nth (List.map bN hs) (Int.toNat i)) 3))])) then c else c+(1:Int)) false))]) else False else False else False else False else False else False else False else ae (PX.exit 0,S.mk 19 [(0,P.mp 0 0),(1,P.ref 1 0 0)] [(0,En.mk 0 (some 1) Obj.ew),(1,En.mk 0 (some 0) (Obj.box 128 [P.d (D.sl 4 (List.map bN hs))]))],PX.normal,S.mk 37 [(5,P.ref 0 0 0),(6,P.ref 2 0 0)] [(0,En.mk 0 none (Obj.box 51 [P.sl 1 0 n])),(1,En.mk 0 none (Obj.arr 30 false (List.map bh out))),(2,En.mk 0 none (Obj.box 98 [P.mp 3 0])),(3,En.mk 0 none (Obj.map 30 f c false))]))=(lZ [] [] 94 4 2000000 X3 1 fBk 1 (bkI hs i,(.normal,onC out n f c))) ae:=by kernel_rfl
def BB(l:List Hd):List Hd:=Hj l.reverse []
theorem R9(h:Hd)(l:List Hd):BB (h::l)=Jk (BB l) h:=by simp[BB,Hj]
theorem Ld(l:List Hd):(BB l).length<=l.length:=by simpa [BB] using s5 l.reverse []
theorem qf6(l:List Hd):RD l=((BB (pM l)).map (·.1)).reverse:=rfl
def ju(l:List Hd):List az:=(l.map (·.2)).reverse
theorem Sb(l:List Hd):(ju l).length=l.length:=by simp[ju]
theorem Nq(l:List Hd)(h:Hd):ju (l++[h])=h.2::ju l:=by simp[ju]
theorem Sc(l:List Hd)(x:az):x∈ju l↔(l.any λy=>y.2==x)=true:=by simp[ju,zbz]
def gOn:yM:=λy ae=> ∃hs:List Hd,hs.length<=1000000/\(∃i:Int,i=(hs.length:Int)-1/\y=(bkI hs i,(.normal,onC [] 0 (λ_=>none) 0)))/\
 ∀c o f,o=BB hs->f=cM (ju o)->ae (.exit 0,bkE hs,(.normal,onC (o.map (·.1)) o.length f c))
section
variable{X:XF}{w0:World}(hX:du PR w0 X.cf)
include hX
theorem qij:LY w0 94 4 1 fBk 1 (eb (aO fBk 1) gOn):=LY.par hX (H:=[]) (HN:=[]) (base:=2000000) (keep:=X3) D5 .nil .nil (by kernel_rfl) (by kernel_rfl) (by kernel_rfl)
 (A:=List Hd) (B:=Nat×Int×Int)
 (λhs b=>(bkI hs b.2.1,(.normal,onC ((BB (hs.drop b.1)).map (·.1)) (BB (hs.drop b.1)).length (cM (ju (BB (hs.drop b.1)))) b.2.2)))
 (λhs b=>hs.length<=1000000/\b.1<=hs.length/\b.2.1=(b.1:Int)-1)
 (λ_ b=>b.1)
 (λhs x=> ∃c,x=(.exit 0,bkE hs,(.normal,onC ((BB hs).map (·.1)) (BB hs).length (cM (ju (BB hs))) c)))
 (by
  rintro hs ⟨k,i,c⟩ ⟨hm,hk,hi⟩;dsimp only at*
  rw[<-X4];cases k with
  |zero=>refine mq (by omega) ?_;exact⟨c,rfl⟩
  |succ k=>
   have bI:k<hs.length:=by omega
   have hik:i.toNat=k:=by omega
   have hl:=Ld (hs.drop (k+1));have hd:hs.drop k=hs[k]::hs.drop (k+1):=za3 bI;have hdl:(hs.drop (k+1)).length<=1000000:=by simp;omega
   have e1:D.nth (hs.map bN) i.toNat=bN hs[k]:=by rw[hik];exact aA _ _ _ bI
   rw[e1];have ho:BB (hs.drop k)=Jk (BB (hs.drop (k+1))) hs[k]:=by rw[hd,R9]
   generalize hs[k]=h at ho;generalize BB (hs.drop (k+1))=on at ho hl;have v1: ∀n:Int,D.aj (iE n)=n:=λ_=>rfl;have t1:D.agg [D.int .i64 (D.aj (D.ar (bN h) 0)),D.int .i64 (D.aj (D.ar (bN h) 1))]=bh h.1:=rfl;have t2:D.agg [D.int .i64 (D.aj (D.ar (bN h) 2)),D.int .i64 (D.aj (D.ar (bN h) 3))]=bh h.2:=rfl;have g0:cF (cM (ju on) (bh h.1)) (.int .i64 0)=iE ((ju on).count h.1:Int):=pQ _ _;have g2:cF (cM (ju on) (bh h.2)) (.int .i64 0)=iE ((ju on).count h.2:Int):=pQ _ _;have u3:=λz=>Dq (ju on) h.2 z;have Aa:(ju on).count h.1>0↔(on.any λy=>y.2==h.1)=true:=by rw[<-Sc];exact List.count_pos_iff
   have c1:=zbW (a:=h.1) (l:=ju on);have c2:=zbW (a:=h.2) (l:=ju on);rw[Sb] at c1 c2;have qcY:((ju on).count h.1:Int)>0↔(on.any λy=>y.2==h.1)=true:=by rw[<-Aa];omega
   have hcb:0<=((ju on).count h.2:Int)/\((ju on).count h.2:Int)<=1000000:=by omega
   rw[t1,t2,g0,g2,zaa];generalize ((ju on).count h.1:Int)=n1 at qcY⊢;generalize ((ju on).count h.2:Int)=n2 at u3 hcb⊢;simp only[v1,zap,zat,zaG];refine bM (by omega) (ao ⟨by omega,by omega⟩ (aq (X1 _) (aq (Aq _) (cE (λhu=>ao (by omega) ?_) λhu=>aq ?_ (aq (Aq _) (ao (by omega) (ao (by omega) ?_)))))))
   ·refine⟨k,zcy k,(k,i-1,c),?_,⟨hm,by show k<=hs.length;omega,by show i-1=(k:Int)-1;omega⟩,rfl⟩;rw[ho,Jk,zao (qcY.1 hu)]
   ·rw[zab];exact⟨by simp,cq (by omega) (by omega)⟩
   rw[u3];refine⟨k,zcy k,(k,i-1,bif (cM (ju on) (bh h.2)).isSome then c else c+1),?_,⟨hm,by show k<=hs.length;omega,by show i-1=(k:Int)-1;omega⟩,rfl⟩;dsimp only;have e:List.take on.length ((on.map (·.1)).map bh)++[bh h.1]=(on.map (·.1)++[h.1]).map bh:=by rw[zai (by simp),zaz];rfl
   rw[e,ho,Jk,zam (λh=>hu (qcY.2 h)),Nq,zan,show(on++[h]).map (λx:Hd=>x.1)=on.map (·.1)++[h.1] from zaz];rfl)
 (by
  rintro y ae ⟨hs,h1,⟨i,hi,rfl⟩,h2⟩;refine⟨hs,(hs.length,i,0),?_,⟨h1,zaj _,hi⟩,?_⟩
  ·dsimp only;rw[zc2,show ju (BB [])=[] from rfl,Dp];rfl
  rintro x ⟨c,rfl⟩;exact h2 c _ _ rfl rfl)
end
abbrev onA(l m:List Hd):S:=⟨37,[(0,v8 l),(1,wa l),(4,.sl 1004 0 0),(5,.ref 1005 0 0),(6,.ref 1006 0 0),(9,.sl 1009 0 0),(10,.mp 1010 0),(11,v8 l),(12,wa l),(13,.sl 1013000 0 m.length),(14,.fn fBk [.ref 1014000 0 0])],
 [(1004,⟨0,none,.arr 30 false []⟩),(1005,⟨0,none,.box 51 [.sl 1009 0 0]⟩),(1006,⟨0,none,.box 98 [.mp 1010 0]⟩),(1009,⟨0,none,.arr 30 false []⟩),(1010,⟨0,none,.map 30 (λ_=>none) 0 false⟩),(1005000,⟨0,none,.arr 30 false []⟩),(1013000,⟨0,none,arH true m⟩),(1014000,⟨0,none,.box 128 [.d (.sl 4 (List.take m.length (m.map bN)))]⟩)]⟩
theorem X5(l m:List Hd)(ae:PX×S->Prop):(bif decide ((-9223372036854775808:Int)<=(↑(List.length (List.take (List.length m) (List.map bN m))):Int)-(1:Int)/\(↑(List.length (List.take (List.length m) (List.map bN m))):Int)-(1:Int)<=(9223372036854775807:Int)) then∃(hs:List Hd),List.length hs<=1000000/\(∃(i:Int),i=(↑(List.length hs):Int)-(1:Int)/\(S.mk 19 [(0,P.mp 0 0),(1,P.ref 1 0 0),(3,P.d (D.int IntKind.i64 ((↑(List.length (List.take (List.length m) (List.map bN m))):Int)-(1:Int))))] [(0,En.mk 0 (some 1) Obj.ew),(1,En.mk 0 (some 0) (Obj.box 128 [P.d (D.sl 4 (List.take (List.length m) (List.map bN m)))]))],PX.normal,S.mk 37 [(5,P.ref 0 0 0),(6,P.ref 2 0 0)] [(0,En.mk 0 none (Obj.box 51 [P.sl 1 0 0])),(1,En.mk 0 none (Obj.arr 30 false [])),(2,En.mk 0 none (Obj.box 98 [P.mp 3 0])),(3,En.mk 0 none (Obj.map 30 (λ(_:D)=>none) (0:Int) false))])=(S.mk 19 [(0,P.mp 0 0),(1,P.ref 1 0 0),(3,P.d (D.int IntKind.i64 i))] [(0,En.mk 0 (some 1) Obj.ew),(1,En.mk 0 (some 0) (Obj.box 128 [P.d (D.sl 4 (List.map bN hs))]))],PX.normal,S.mk 37 [(5,P.ref 0 0 0),(6,P.ref 2 0 0)] [(0,En.mk 0 none (Obj.box 51 [P.sl 1 0 0])),(1,En.mk 0 none (Obj.arr 30 false [])),(2,En.mk 0 none (Obj.box 98 [P.mp 3 0])),(3,En.mk 0 none (Obj.map 30 (λ(_:D)=>none) (0:Int) false))]))/\ ∀(c:Int) (o:List Hd) (f:D->Option D),o=BB hs->f=cM (ju o)->ae (PX.normal,S.mk 37 [(5,P.ref 0 0 0),(6,P.ref 2 0 0)] [(0,En.mk 0 none (Obj.box 51 [P.sl 1 0 (List.length o)])),(1,En.mk 0 none (Obj.arr 30 false (List.map bh (List.map (λ(x:Hd)=>Prod.fst x) o)))),(2,En.mk 0 none (Obj.box 98 [P.mp 3 0])),(3,En.mk 0 none (Obj.map 30 f c false))]) else False)=(wK [] [] (λfi yt=>if Nat.beq fi fBk&&Nat.beq yt 1 then [(1,eb (aO fBk 1) gOn)] else []) 94 4 2000000 X3 (onA l m)) ae:=by kernel_rfl
abbrev l0(z:Bool)(l:List az):Obj:= .arr 30 z (l.map bh)
def qcZ:S->K (PX×S):=λs ae=> ∃l m,s=onA l m/\m.length<=1000000/\ ∀c o f,o=BB m->ae (.normal,onC (o.map (·.1)) o.length f c)
def Sd:br:=λps R ae=> ∃l:List az,ps=[.sl 0 0 l.length]/\R=[(0,⟨0,some 0,l0 false l⟩)]/\l.length<=1000000/\ ∀l',l'=l.reverse->ae (.cX [],[(0,⟨0,some 0,l0 false l'⟩)])
abbrev rvH(n:Nat)(l:List az)(i j:Int):S:=⟨28,[(0,.sl 0 0 n),(2,iD i),(3,iD j)],[(0,⟨0,some 0,l0 false l⟩)]⟩
def Se(l:List az):Nat×En:=(0,En.mk 0 (some 0) (Obj.arr (30:TypeId) false (eL l)))
def D7(l:List az):List (Nat×En):=[Se l]
def q8(n:Nat):Nat×P:=(0,ZB n)
def Z6d(l:List az)(i:Int)(j:Int):List D:=List.set (eL l) (Zg i) (D.aW (D.agg (Al l i)) (Al l j))
def Le(j:Int)(l:List az):Bool:=decide (Zg j<List.length (eL l))
def mC(j:Int)(n:Nat):Bool:=decide ((0:Int)<=j/\j<(↑n:Int))
theorem qf7(n:Nat)(l:List az)(i j:Int)(ae:PX×S->Prop):(bif ZI i j then bif mC j n then bif Le j l then bif vU l j then bif mC i n then bif Le i l then bif vU l i then bif mC i n then bif Le i l then bif vU l i then bif mC j n then bif decide (Zg j<List.length (Z6d l i j)) then bif cD PR (30:TypeId) (D.nth (Z6d l i j) (Zg j)) then bif Zj i then bif Zb j then ae (PX.normal,S.mk 28 [q8 n,(2,P.d (Zn i)),(3,Zs j)] [(0,En.mk 0 (some 0) (Obj.arr (30:TypeId) false (List.set (Z6d l i j) (Zg j) (D.aW (D.agg [D.int .i64 (D.aj (D.ar (D.nth (Z6d l i j) (Zg j)) 0)),D.int .i64 (D.aj (D.ar (D.nth (Z6d l i j) (Zg j)) 1))]) (Al l i)))))]) else False else False else False else False else False else False else False else False else False else False else False else False else False else False else ae (PX.exit 0,S.mk 28 [q8 n] (D7 l)))=(aG [] [] 123 1 (rvH n l i j)) ae:=by kernel_rfl
def gRv:S->K (PX×S):=λst ae=> ∃(l:List az) (n:Nat) (j:Int),st=rvH n l 0 j/\(n=l.length/\j=(n:Int)-1/\n<=1000000)/\ae (.exit 0,⟨28,[(0,.sl 0 0 n)],[(0,⟨0,some 0,l0 false l.reverse⟩)]⟩)
theorem qik(n:Nat)(l:List az)(ae:P×List (Nat×En)->Prop):(bif decide (Z9<=(↑n:Int)-(1:Int)/\(↑n:Int)-(1:Int)<=Za) then∃(au:List az) (cH:Nat) (j:Int),S.mk 28 [q8 n,(2,P.d Z7),(3,P.d (D.int .i64 ((↑n:Int)-(1:Int))))] (D7 l)=S.mk 28 (q8 cH::(2,P.d Z7)::Zu j) (D7 au)/\(cH=eu au/\j=(↑cH:Int)-(1:Int)/\cH<=1000000)/\ae (P.cX [],[(0,En.mk 0 (some 0) (Obj.arr (30:TypeId) false (List.map bh (List.reverse au))))]) else False)=(aK [] [(1,ah (aO 123 1) gRv)] 123 [.sl 0 0 n] [(0,⟨0,some 0,l0 false l⟩)]) ae:=by kernel_rfl
def oI(l':List az):En:=En.mk 0 none (Obj.arr (30:TypeId) false (eL l'))
def Nr(l':List az):List (Nat×En):=[(0,oI l')]
def rT(l:List az):Prop:=eu l<=1000000
def zA(l:List az):P:=P.sl 0 0 (eu l)
def wc:En:=En.mk 0 none (Obj.arr (30:TypeId) false [])
def Z6j(l:List Hd)(m:List Hd):S:=S.mk 37 [K9 l,K8 l,(4,P.sl 1004 0 0),(5,P.ref 1005 0 0),(6,P.ref 1006 0 0),(9,P.sl 1009 0 0),(10,P.mp 1010 0),(11,P.d (D.sl 2 (nZ l))),(12,P.d (D.sl 2 (ql l))),(13,P.sl 1013000 0 (fM m)),(14,P.fn (153:FuncId) [P.ref 1014000 0 0])] [(1004,wc),(1005,En.mk 0 none (Obj.box (51:TypeId) [P.sl 1009 0 0])),(1006,En.mk 0 none (Obj.box (98:TypeId) [P.mp 1010 0])),(1009,wc),(1010,Nl),(1005000,wc),(1013000,En.mk 0 none (Obj.arr (132:TypeId) true (List.map bN m))),(1014000,En.mk 0 none (Obj.box (128:TypeId) [P.d (D.sl 4 (Jq m))]))]
def Z6h(l:List Hd):List P:=[P.d (D.sl 2 (nZ l)),P.d (D.sl 2 (ql l))]
theorem qil(l:List Hd)(ae:P×List (Nat×En)->Prop):(∃(au:List Hd),Z6h l=Z6h au/\Zx/\qm au/\ ∀(m:List Hd),m=pM au-> ∃(iG:List Hd) (bZ:List Hd),Z6j l m=Z6j iG bZ/\qm bZ/\ ∀(_:Int) (o:List Hd) (_:D->Option D),o=BB bZ-> ∃(l:List az),[qD o]=[zA l]/\[(0,En.mk 0 (some 0) (Obj.arr (30:TypeId) false (nZ o)))]=D7 l/\rT l/\ ∀(l':List az),l'=List.reverse l->ae (qD o,Nr l'))=(rR [(68,yP),(123,Sd)] [] [(500004,qcZ)] 94 [v8 l,wa l] []) ae:=by kernel_rfl
def qc0:br:=λps R ae=> ∃l,ps=[v8 l,wa l]/\R=[]/\l.length<=1000000/\ ∀o,o=RD l->ae (.sl 0 0 o.length,[(0,⟨0,none,l0 false o⟩)])
def mW(l:List az)(i:Nat):List az:=(List.range l.length).map λp=>if p<i\/l.length-i<=p then l.getD (l.length-1-p) (0,0) else l.getD p (0,0)
theorem ic(l:List az)(i:Nat):(mW l i).length=l.length:=by simp[mW]
theorem mX(l:List az)(i p:Nat)(h:p<l.length):(mW l i)[p]'(by rw[ic];exact h)=if p<i\/l.length-i<=p then l.getD (l.length-1-p) (0,0) else l.getD p (0,0):=by simp[mW]
theorem Ns(l:List az):mW l 0=l:=by apply zbY (ic l 0);intro p h1 h2;rw[mX l 0 p h2,zam (by omega)];exact dT h2 _
theorem Sf(l:List az)(i:Nat)(h:l.length<=2*i+1):mW l i=l.reverse:=by
 apply zbY (by rw[ic];simp);intro p h1 h2;have hp:p<l.length:=by rw[ic] at h1;exact h1
 rw[mX l i p hp,List.getElem_reverse];split
 ·exact dT (by omega) _
 rw[dT hp];congr 1;omega
theorem Nt(l:List az)(i:Nat)(h:2*i+1<l.length):((mW l i).set i ((mW l i)[l.length-1-i]'(by rw[ic];omega))).set (l.length-1-i) ((mW l i)[i]'(by rw[ic];omega))=mW l (i+1):=by
 apply zbY (by simp[ic]);intro p h1 h2;have hp:p<l.length:=by rw[ic] at h2;exact h2
 rw[List.getElem_set,List.getElem_set,mX l (i+1) p hp,mX l i p hp,mX l i i (by omega),mX l i (l.length-1-i) (by omega)];by_cases e1:l.length-1-i=p
 ·rw[zao e1,zam (by omega),zao (by omega)];congr 1;omega
 rw[zam e1];by_cases e2:i=p
 ·rw[zao e2,zam (by omega),zao (by omega)];congr 1;omega
 rw[zam e2];by_cases e3:p<i\/l.length-i<=p
 ·rw[zao e3,zao (by omega)]
 rw[zam e3,zam (by omega)]
section
variable{X:XF}
theorem qc1:LD X 123 1 (ah (aO 123 1) gRv):=LD.par (H:=[]) (hk:=[]) (by kernel_rfl) (by kernel_rfl) .nil .nil
 (A:=List az) (B:=Nat×Int×Int) (λl b=>rvH l.length (mW l b.1) b.2.1 b.2.2) (λl b=>l.length<=1000000/\b.2.1=(b.1:Int)/\b.2.2=(l.length:Int)-1-b.1/\2*b.1<=l.length+1) (λl b=>l.length-b.1)
 (λl x=>x=(.exit 0,⟨28,[(0,.sl 0 0 l.length)],[(0,⟨0,some 0,l0 false l.reverse⟩)]⟩))
 (by
  rintro l ⟨k,i,j⟩ ⟨hm,hi,hj,hk⟩;dsimp only at*
  (rw[<-qf7];delta eL Se D7 Zg I5 Hg Al Zs Zn ZB q8 Za Z9 Zb Zj Z6d vU Le mC ZI)
  refine cE (λqw=> ?_) λqw=> ?_
  ·have bj:i.toNat=k:=by omega
   have BD:j.toNat=l.length-1-k:=by omega
   have hrl:=ic l k;have ei:D.nth ((mW l k).map bh) i.toNat=bh ((mW l k)[k]'(by omega)):=by rw[bj];exact aA _ _ _ (by omega)
   have ej:D.nth ((mW l k).map bh) j.toNat=bh ((mW l k)[l.length-1-k]'(by omega)):=by rw[BD];exact aA _ _ _ (by omega)
   have kO:=Nt l k (by omega);have dI:k≠l.length-1-k:=by omega
   rw[ei,ej];have hx: ∀y,((mW l k).set k y)[l.length-1-k]'(by simp;omega)=(mW l k)[l.length-1-k]'(by omega):=λy=>by rw[List.getElem_set_ne dI]
   generalize hxx:(mW l k)[k]'(by omega)=x at*
   generalize hyy:(mW l k)[l.length-1-k]'(by omega)=y at*
   have w1:D.aW (D.agg [D.int .i64 (D.aj (D.ar (bh x) 0)),D.int .i64 (D.aj (D.ar (bh x) 1))]) [D.int .i64 (D.aj (D.ar (bh y) 0)),D.int .i64 (D.aj (D.ar (bh y) 1))]=bh y:=rfl;have w2:D.aW (D.agg [D.int .i64 (D.aj (D.ar (bh y) 0)),D.int .i64 (D.aj (D.ar (bh y) 1))]) [D.int .i64 (D.aj (D.ar (bh x) 0)),D.int .i64 (D.aj (D.ar (bh x) 1))]=bh x:=rfl;have e3:D.nth ((mW l k).map bh |>.set i.toNat (bh y)) j.toNat=bh y:=by rw[<-zb1,bj,BD,aA _ _ _ (by simp;omega),hx]
   rw[w1,e3,w2,<-zb1,<-zb1];refine ao ⟨by omega,by omega⟩ (ao (by simp;omega) (aq (jS _) (ao ⟨by omega,by omega⟩ (ao (by simp;omega) (aq (jS _) (ao ⟨by omega,by omega⟩ (ao (by simp;omega) (aq (jS _) (ao ⟨by omega,by omega⟩ (ao (by simp;omega) (aq (jS _) (ao (by omega) (ao (by omega) ?_)))))))))))));refine⟨l.length-(k+1),by omega,(k+1,i+1,j-1),?_,⟨hm,by show i+1=((k+1:Nat):Int);omega,by show j-1=(l.length:Int)-1-((k+1:Nat):Int);omega,by show 2*(k+1)<=l.length+1;omega⟩,rfl⟩;dsimp only;rw[<-kO,bj,BD]
  show _=_;rw[Sf l k (by omega)])
 (by rintro s ae ⟨l,n,j,rfl,⟨rfl,hj,hn⟩,hp⟩;refine⟨l,(0,0,j),by dsimp only;rw[Ns],⟨hn,rfl,by show j=_;omega,by show 2*0<=_;omega⟩,?_⟩;rintro x rfl;exact hp)
theorem qc2:FD X 123 Sd:=FD.mk (H:=[]) (hk:=[(1,ah (aO 123 1) gRv)]) (by kernel_rfl) .nil (.cons qc1 .nil) (by
 intro ps R ae hh;obtain⟨l,rfl,rfl,hm,hp⟩:=hh
 (rw[<-qik];delta eu Zt Zu eL Se D7 Z7 ZB q8 Za Z9)
 exact ao (by omega) ⟨l,l.length,_,rfl,⟨rfl,rfl,hm⟩,hp _ rfl⟩)
end
section
variable{X:XF}{w0:World}(hX:du PR w0 X.cf)
include hX
theorem qim:FN w0 94 4 qcZ:=FN.mk hX (H:=[]) (HN:=[]) D5 .nil .nil (base:=2000000) (keep:=X3) (by kernel_rfl) (hk:=λfi yt=>if Nat.beq fi fBk&&Nat.beq yt 1 then [(1,eb (aO fBk 1) gOn)] else [])
 (by
  intro fi yt h zx hl;split at hl
  next hb=>
   rw[zab] at hb;have e1:=zaf hb.1;have e2:=zaf hb.2;subst e1 e2;unfold lk at hl;split at hl
   next he=>have e3:=zaf he;subst e3;cases hl;exact⟨by kernel_rfl,qij hX⟩
   cases hl
  cases hl)
 (by rintro s ae ⟨l,m,rfl,hm,hp⟩;rw[<-X5];have e:List.take m.length (m.map bN)=m.map bN:=zai (by simp);rw[e,zaa];exact ao (by omega) ⟨m,hm,⟨_,rfl,rfl⟩,λc o f h1 h2=>hp c o f h1⟩)
theorem qin:ND w0 94 qc0:=ND.mk hX (H:=[(68,yP),(123,Sd)]) (HN:=[]) (hk:=[(500004,qcZ)]) D5 (by kernel_rfl) (by kernel_rfl) (.cons Lc (.cons qc2 .nil)) .nil (.range (qim hX) .nil) (by
 intro ps R ae hh;obtain⟨l,rfl,rfl,hm,hp⟩:=hh
 (rw[<-qil];delta eL oI Nr eu rT Se D7 nZ zA fM qD Jq Nl wc ql K8 K9 Z6j qm Zx Z6h)
 have hl:=Gd l;refine⟨l,rfl,rfl,hm,λm Vi=>⟨l,m,rfl,by rw[Vi];omega,λc o f ho=>⟨o.map (·.1),by rw[zaa],rfl,?_,λl' Ps=> ?_⟩⟩⟩
 ·have:=Ld m;rw[zaa,ho];subst Vi;omega
 have e:l'=RD l:=by rw[Ps,ho,Vi,qf6]
 have e2:o.length=l'.length:=by rw[Ps];simp
 rw[e2];exact hp l' e)
end
abbrev bf:=av×az
structure Tl where
 a:List av
 p:List Pl
 h:List bf
 g:List bf
def tl0:Tl:=⟨[],[],[],[]⟩
def rU(o:aX):Pl:=(o.node,o.parent,o.name,o.dir)
def fN(on:Bool)(o:aX):Bool:=o.kind==0 || (o.kind==1&&on)
def gk(on:Bool)(o:aX):Bool:=on&& !(o.kind==2)
def Sg(on:Bool)(s:az)(t:Tl)(o:aX)(k:Nat):Tl:=
 ⟨if fN on o=true then t.a++[(s.1,s.2,(k:Int))] else t.a,if fN on o=true then t.p++[rU o] else t.p,
  if gk on o=true then t.h++[(o.node,s)] else t.h,if on=true then t.g++o.ca.map (λd=>(o.node,d)) else t.g⟩
def Gq(on:Bool)(s:az)(l:List aX)(t:Tl):Tl:=l.zipIdx.foldl (λt p=>Sg on s t p.1 p.2) t
def tlG(on:List az)(t:Tl)(g:ak):Tl:=Gq (decide (g.s∈on)) g.s g.ops t
def wg(on:List az)(l:List ak):Tl:=l.foldl (tlG on) tl0
theorem yR{on:Bool}{s:az}{l:List aX}{t:Tl}{i:Nat}(h:i<l.length):Gq on s (l.take (i+1)) t=Sg on s (Gq on s (l.take i) t) l[i] i:=by unfold Gq;rw[zag h,List.zipIdx_append,za2];simp[zay,zce (Nat.le_of_lt h)]
theorem s9{on:List az}{l:List ak}{i:Nat}(h:i<l.length):wg on (l.take (i+1))=tlG on (wg on (l.take i)) l[i]:=by unfold wg;rw[zag h,za2];rfl
def df(l:List ak):Nat:=(l.map λg=>g.ops.length).sum
theorem lx:df []=0:=rfl
theorem iV(g:ak)(l:List ak):df (g::l)=g.ops.length+df l:=by simp[df]
theorem yS(a b:List ak):df (a++b)=df a+df b:=by simp[df]
theorem qn(l:List ak)(i:Nat):df (l.take i)<=df l:=by have:=yS (l.take i) (l.drop i);rw[zbR] at this;omega
theorem rV{l:List ak}{i:Nat}(h:i<l.length):df (l.take (i+1))=df (l.take i)+l[i].ops.length:=by rw[zag h,yS,iV,lx];omega
theorem BE: ∀(l o:List ak),df (l.foldl kj o)<=df o+df l
 | [],o=>by simp[lx]
 |g::r,o=>by
  have h1:=BE r (kj o g);have h2:df (kj o g)<=df o+g.ops.length:=by
   unfold kj;split
   ·rw[yS,iV,lx];omega
   omega
  rw[za9,iV];omega
theorem Js(l:List ak):df (aI l)<=df l:=by simpa [aI,lx] using BE l []
def uz(n:Nat)(t:Tl):Prop:=t.a.length=t.p.length/\t.a.length<=n/\t.h.length<=n/\t.g.length<=200*n
theorem uz.zero:uz 0 tl0:=⟨rfl,zaj _,zaj _,zaj _⟩
theorem uz.mono{n m:Nat}{t:Tl}(h:uz n t)(hm:n<=m):uz m t:=⟨h.1,by have:=h.2.1;omega,by have:=h.2.2.1;omega,by have:=h.2.2.2;omega⟩
theorem uz.op{n:Nat}{t:Tl}(h:uz n t){on:Bool}{s:az}{o:aX}{k:Nat}(hd:o.ca.length<=200):uz (n+1) (Sg on s t o k):=by
 obtain⟨h0,h1,h2,h3⟩:=h;unfold uz Sg;refine⟨?_,?_,?_,?_⟩
 ·dsimp only;split<;>simp[h0]
 ·dsimp only;split
  ·simp;omega
  omega
 ·dsimp only;split
  ·simp;omega
  omega
 dsimp only;split
 ·simp;omega
 omega
theorem uz.ops{n:Nat}{t:Tl}(h:uz n t){on:Bool}{s:az}{l:List aX}(hd: ∀o∈l,o.ca.length<=200): ∀i,i<=l.length->uz (n+i) (Gq on s (l.take i) t)
 |0,_=>by simpa [Gq] using h
 |i+1,hi=>by rw[yR hi];exact(uz.ops h hd i (by omega)).op (hd _ (zas hi))
theorem uz.grp{n:Nat}{t:Tl}(h:uz n t){on:List az}{g:ak}(hd: ∀o∈g.ops,o.ca.length<=200):uz (n+g.ops.length) (tlG on t g):=by have:=uz.ops h (on:=decide (g.s∈on)) (s:=g.s) hd g.ops.length (zaj _);rwa [zak] at this
theorem Sh{s:az}{k n:Int}{o:aX}(h:jR s k o=some n):o.ca.length<=200:=by
 unfold jR at h;split at h
 ·cases h
 rename_i hb;by_cases h2:o.kind=2
 ·rw[zam (by omega),zam (by omega),zao h2] at h;split at h
  next hd=>have:=hd.2;unfold mS at this;rw[zab,zah] at this;exact this.2
  cases h
 have:o.ca.length=0:=by
  simp only[zcu,eX,js,zab,zba,zaR] at hb;rcases hb.1.1.2 with h |h
  ·exact absurd h h2
  exact h
 omega
theorem Gr{P:aX->Prop}{s:az}(hP: ∀k n o,jR s k o=some n->P o): ∀(l:List aX) (k:Int),iu s k l=true-> ∀o∈l,P o
 | [],_,_,_,h=>by cases h
 |o::r,k,h,x,hx=>by
  unfold iu at h;split at h
  next n hn=>
   rcases zav.1 hx with rfl |hx
   ·exact hP k n _ hn
   exact Gr hP r _ h x hx
  cases h
theorem Dz{g:ak}(h:ct g=true):iu g.s 0 g.ops=true:=by
 unfold ct at h;rw[zab] at h;have h2:=h.2;split at h2
 ·simp only[zab,zaR] at h2;rw[zax h2.2];rfl
 rw[zab] at h2;exact h2.2
theorem tc{g:ak}(h:ct g=true): ∀o∈g.ops,o.ca.length<=200:=Gr (P:=λo=>o.ca.length<=200) (λ_ _ _ h=>Sh h) _ _ (Dz h)
theorem tf{g:ak}(h:ct g=true):g.ops.length<=200:=by
 unfold ct at h;rw[zab] at h;have h2:=h.2;split at h2
 ·simp only[zab,zaR] at h2;omega
 rw[zab,zah] at h2;exact h2.1.2
theorem BF{on:List az}{l:List ak}(hc: ∀g∈l,ct g=true): ∀i,i<=l.length->uz (df (l.take i)) (wg on (l.take i))
 |0,_=>by simpa [wg,lx] using uz.zero
 |i+1,hi=>by rw[s9 hi,rV hi];exact(BF hc i (by omega)).grp (tc (hc _ (zas hi)))
def SmV(l:List ak):Prop:=df l<=1000
def Rt(T:List Pl):Prop:=Uq T/\ ∀p∈T,yw p=true
theorem qc3{T:List Pl}(h:Rt T)(p:Pl):Rt (IW T p):=by
 unfold IW;split
 ·exact h
 rename_i h0;split
 next hp=>
  refine⟨?_,λq hq=> ?_⟩
  ·unfold Uq;rw[zaz,zaU];refine⟨h.1,by simp,λa ha b hb=> ?_⟩;simp at hb;subst hb;intro e;obtain⟨q,hq,hqa⟩:=zaA.1 ha;apply h0;unfold eo;rw[List.find?_isSome];exact⟨q,hq,by simp[hqa,e]⟩
  rcases zaE.1 hq with hq |hq
  ·exact h.2 q hq
  simp at hq;subst hq;exact hp
 exact h
theorem Si: ∀(l T:List Pl),Rt T->Rt (l.foldl IW T)
 | [],_,h=>h
 |p::r,_,h=>Si r _ (qc3 h p)
theorem Sj(l:List Pl):Rt (oP l):=Si l [] ⟨by simp[Uq],by simp⟩
theorem X6(T:List Pl)(p:Pl):(IW T p).length<=T.length+1:=by
 unfold IW;split
 ·omega
 split
 ·simp
 omega
theorem Lf: ∀(l T:List Pl),(l.foldl IW T).length<=T.length+l.length
 | [],_=>by simp
 |p::r,T=>by have:=Lf r (IW T p);have:=X6 T p;simp only[za9,zap];omega
theorem DA(l:List Pl):(oP l).length<=l.length:=by simpa [oP] using Lf l []
def Nu(L:List Pl)(p:Pl):List UInt8:=if L.any (λq=>decide (q.2.1=p.2.1)&&(q.2.2.1==p.2.2.1)&&mj q.1 p.1) then(lb p.2.2.1 p.1.1 p.1.2.1 p.1.2.2).1 else p.2.2.1
def Lg(T:List Pl)(live:List av)(x:av):List UInt8:=match eo T x with |some p=>Nu (bc T live) p |none=>[]
def Jt(T:List Pl)(live:List av)(x:av):List (List UInt8):=match wy T x with |some w=>w.reverse.map (Lg T live)|none=>[]
def Lh(T:List Pl)(live:List av)(x:av):List UInt8:=pH (Jt T live x)
abbrev It:=av×List UInt8×Bool×Bool
def ly(T:List Pl)(live:List av)(p:Pl):It:=(p.1,Lh T live p.1,p.2.2.2,!decide (p.1∈live))
abbrev Gs(a b:It):Bool:=Op.bytesLess a.2.1 b.2.1
def jT(T:List Pl)(live:List av):List It:=cj Gs ((bc T live).map (ly T live))
section
variable{T:List Pl}{live:List av}
theorem qc4{p:Pl}(h:yw p=true):(lb p.2.2.1 p.1.1 p.1.2.1 p.1.2.2).1=p.2.2.1++126::Bl p.1.1 p.1.2.1 p.1.2.2:=by simp only[yw,zab] at h;rw[lb,zao h.2,zao h.1]
theorem Sk{x:av}{p:Pl}(h:marked T live x=true)(hp:eo T x=some p):p∈bc T live:=by obtain⟨h1,h2⟩:=jr hp;exact zbT.2 ⟨h1,by rw[h2];exact h⟩
theorem Sl{x:av}{w:List av}(h:Up T x w):Jt T live x=w.reverse.map (Lg T live):=by unfold Jt;rw[IY.2 h]
theorem X7{p:Pl}(h:p∈bc T live):p∈T/\marked T live p.1=true:=by unfold bc at h;rw[zbT] at h;exact h
end
def fw(x:It):D:=itD x.1.1 x.1.2.1 x.1.2.2 x.2.1 x.2.2.1 x.2.2.2
theorem qf8(x:It):cD PR 72 (fw x)=true:=by obtain⟨⟨a,b,c⟩,d,e,f⟩:=x;kernel_rfl
theorem wO(L:List Pl){p:Pl}(h:yw p=true):(Nu L p).length<=200:=by
 have h':=h;simp only[yw,zab] at h';have hn:p.2.2.1.length<=32:=by have:=h'.2;simp only[dw,zah] at this;exact this.2.1
 unfold Nu;split
 ·rw[qc4 h];have hr:=h'.1;simp only[cu,zah] at hr;have l1:=gB (n:=p.1.1) (by omega) (by omega);have l2:=gB (n:=p.1.2.1) (by omega) (by omega);have l3:=gB (n:=p.1.2.2) (by omega) (by omega);simp[Bl];omega
 omega
theorem Sm: ∀(l:List (List UInt8)),(∀s∈l,s.length<=200)->W6 l<=201*l.length
 | [],_=>by simp[W6,pH]
 |s::r,h=>by have h1:=Sm r λx hx=>h x (by simp[hx]);have h2:=h s (by simp);simp only[W6,pH,zcr,zan,zap] at h1⊢;omega
theorem Nv{T:List Pl}{V:List av}(hT:Rt T){x:av}{w:List av}(hw:Up T x w):W6 (w.reverse.map (Lg T V))<=201*T.length:=by
 have:=Sm (w.reverse.map (Lg T V)) λs hs=>by obtain⟨u,hu,rfl⟩:=zaA.1 hs;obtain⟨w',h1,_⟩:=hw.sub u (by simpa using hu);obtain⟨p,hp⟩:=h1.at;unfold Lg;rw[hp];exact wO _ (hT.2 p (jr hp).1)
 have hl:=hw.len;simp only[zaa,List.length_reverse] at this;omega
section
variable{X:XF}{w0:World}(hX:du PR w0 X.cf)
include hX
end
def qE{α:Type}(f:α->Bool)(l:List α):Int:=match l.findIdx? f with |some i=>(i:Int)|none=> -1
abbrev bxI(n:Nat)(x:av):List (Nat×En):=[(n,⟨0,none,.box 50 [.d (.int .i64 x.1),.d (.int .i64 x.2.1),.d (.int .i64 x.2.2)]⟩)]
abbrev qc5(l:List Pl)(x:av)(k:Int):S:=⟨20,[(0,eH l),(3,.ref 0 0 0),(5,iD k)],bxI 0 x⟩
def eN(l:List Pl)(x:av):Int:=qE (λp:Pl=>p.1==x) l
def qc6:S->K (PX×S):=λs ae=> ∃l x,s=qc5 l x 0/\l.length<=1000000/\(∀i:Int,i=eN l x->0<=i->ae (.ret,⟨20,[(0,eH l),(4,iD i)],[]⟩))/\(eN l x= -1->ae (.exit 0,⟨20,[(0,eH l)],[]⟩))
def oS(x:av):En:=En.mk 0 none (Obj.box (50:TypeId) [P.d (gD x),P.d (gC x),P.d (gP x)])
def wh(x:av):Nat×En:=(0,oS x)
def Ju(x:av):List (Nat×En):=[wh x]
def iv(l:List Pl):List D:=List.map bK l
def lF(l:List Pl):P:=P.d (D.sl 8 (iv l))
def tK(l:List Pl):Nat×P:=(0,lF l)
def ou(l:List Pl)(k:Int):D:=D.nth (iv l) (Zg k)
def Z6u(l:List Pl)(k:Int)(x:av):Bool:=D.aj (D.ar (ou l k) 0)==Prod.fst x&&(D.aj (D.ar (ou l k) 1)==ia x&&true)&&(D.aj (D.ar (ou l k) 2)==gR x&&true)
noncomputable def qF(l:List Pl)(k:Int):Bool:=cD PR (104:TypeId) (ou l k)
def sb(l:List Pl):Nat:=List.length (iv l)
def Gt(k:Int)(l:List Pl):Bool:=decide ((0:Int)<=k/\k<(↑(sb l):Int))
def Z6q(k:Int)(l:List Pl):Bool:=decide (k<(↑(sb l):Int))
theorem qaZ(l:List Pl)(x:av)(k:Int)(ae:PX×S->Prop):(bif Z6q k l then bif Gt k l then bif qF l k then bif Z6u l k x then ae (PX.ret,S.mk 20 (tK l::Ap k) []) else bif Zj k then ae (PX.normal,S.mk 20 (tK l::dH::Zo k) (Ju x)) else False else False else False else ae (PX.exit 0,S.mk 20 [tK l] []))=(aG [] [] 87 2 (qc5 l x k)) ae:=by kernel_rfl
def jU(au:List Pl):Nat:=List.length au
def n0(au:List Pl):Prop:=jU au<=1000000
theorem qc7(l:List Pl)(x:av)(ae:P×List (Nat×En)->Prop):(∃(au:List Pl) (aJ:av),S.mk 20 (tK l::dH::ZN) (Ju x)=S.mk 20 (tK au::dH::ZN) (Ju aJ)/\n0 au/\(∀(i:Int),i=eN au aJ->(0:Int)<=i->ae (P.d (Zt i),[]))/\(eN au aJ=(-1:Int)->oO ae))=(aK [] [(2,ah (aO 87 2) qc6)] 87 [eH l,.d (bE x)] []) ae:=by kernel_rfl
def Sn:br:=λps R ae=> ∃l x,ps=[eH l,.d (bE x)]/\R=[]/\l.length<=1000000/\ae (iD (eN l x),[])
abbrev BG(z:Bool)(l:List Pl):List (Nat×En):=[(0,⟨0,some 0,.arr 104 z (l.map bK)⟩)]
abbrev qc8(z:Bool)(l:List Pl)(n:Nat)(x:av)(k:Int):S:=⟨20,[(0,.sl 0 0 n),(3,.ref 1 0 0),(5,iD k)],BG z l++bxI 1 x⟩
def Sp:S->K (PX×S):=λs ae=> ∃z l x,s=qc8 z l l.length x 0/\l.length<=1000000/\(∀i:Int,i=eN l x->0<=i->ae (.ret,⟨20,[(0,.sl 0 0 l.length),(4,iD i)],BG z l⟩))/\(eN l x= -1->ae (.exit 0,⟨20,[(0,.sl 0 0 l.length)],BG z l⟩))
def Sq(x:av):List (Nat×En):=[(1,oS x)]
def Nw(z:Bool)(l:List Pl):Nat×En:=(0,En.mk 0 (some 0) (Obj.arr (104:TypeId) z (iv l)))
def D8(z:Bool)(l:List Pl):List (Nat×En):=[Nw z l]
def Hl(k:Int)(l:List Pl):Bool:=decide (Zg k<sb l)
def Sr(k:Int)(n:Nat):Bool:=decide (k<(↑n:Int))
theorem Ss(z:Bool)(l:List Pl)(n:Nat)(x:av)(k:Int)(ae:PX×S->Prop):(bif Sr k n then bif mC k n then bif Hl k l then bif qF l k then bif Z6u l k x then ae (PX.ret,S.mk 20 (q8 n::Ap k) (D8 z l)) else bif Zj k then ae (PX.normal,S.mk 20 (q8 n::sa::Zo k) (Nw z l::Sq x)) else False else False else False else False else ae (PX.exit 0,S.mk 20 [q8 n] (D8 z l)))=(aG [] [] 87 2 (qc8 z l n x k)) ae:=by kernel_rfl
def ti(au:List Pl):P:=P.sl 0 0 (jU au)
theorem X8(z:Bool)(l:List Pl)(n:Nat)(x:av)(ae:P×List (Nat×En)->Prop):(∃(Nx:Bool) (au:List Pl) (aJ:av),S.mk 20 (q8 n::sa::ZN) (Nw z l::Sq x)=S.mk 20 ((0,ti au)::sa::ZN) (Nw Nx au::Sq aJ)/\n0 au/\(∀(i:Int),i=eN au aJ->(0:Int)<=i->ae (P.d (Zt i),D8 Nx au))/\(eN au aJ=(-1:Int)->ae (QW,D8 Nx au)))=(aK [] [(2,ah (aO 87 2) Sp)] 87 [.sl 0 0 n,.d (bE x)] (BG z l)) ae:=by kernel_rfl
def Sv:br:=λps R ae=> ∃z l x,ps=[.sl 0 0 l.length,.d (bE x)]/\R=BG z l/\l.length<=1000000/\ae (iD (eN l x),BG z l)
abbrev hsH(l:List av)(x:av)(k:Int):S:=⟨18,[(0,cR l),(3,.ref 0 0 0),(5,iD k)],bxI 0 x⟩
def qc9:S->K (PX×S):=λs ae=> ∃l x,s=hsH l x 0/\l.length<=1000000/\(x∈l->ae (.ret,⟨18,[(0,cR l),(4,.d (.bool true))],[]⟩))/\(x∉l->ae (.exit 0,⟨18,[(0,cR l)],[]⟩))
def Li:List (Nat×P):=[(4,ZO)]
def DB(l:List av):Nat×P:=(0,lL l)
def Z6I(l:List av)(k:Int)(x:av):Bool:=I8 l k==Prod.fst x&&(I7 l k==ia x&&true)&&(I6 l k==gR x&&true)
theorem qa0(l:List av)(x:av)(k:Int)(ae:PX×S->Prop):(bif decide (k<vp l) then bif Na k l then bif wJ l k then bif Z6I l k x then ae (PX.ret,S.mk 18 (DB l::Li) []) else bif Zj k then ae (PX.normal,S.mk 18 (DB l::dH::Zo k) (Ju x)) else False else False else False else ae (PX.exit 0,S.mk 18 [DB l] []))=(aG [] [] 91 2 (hsH l x k)) ae:=by kernel_rfl
def pS(au:List av):Prop:=ib au<=1000000
theorem qda(l:List av)(x:av)(ae:P×List (Nat×En)->Prop):(∃(au:List av) (aJ:av),S.mk 18 (DB l::dH::ZN) (Ju x)=S.mk 18 (DB au::dH::ZN) (Ju aJ)/\pS au/\(aJ∈au->ZP ae)/\(¬aJ∈au->Z4 ae))=(aK [] [(2,ah (aO 91 2) qc9)] 91 [cR l,.d (bE x)] []) ae:=by kernel_rfl
def Sw:br:=λps R ae=> ∃l x,ps=[cR l,.d (bE x)]/\R=[]/\l.length<=1000000/\ae (.d (.bool (decide (x∈l))),[])
theorem Gu{α:Type}{f:α->Bool}{l:List α}{i:Nat}{x:α}(h:l[i]?=some x)(hf:f x=true)(hb: ∀y∈l.take i,f y=false):qE f l=(i:Int):=by
 have hi:i<l.length:=(zad.1 h).1;have:l.findIdx? f=some i:=by rw[zbJ];refine⟨hi,by rw[(zad.1 h).2];exact hf,λj hj=> ?_⟩;rw[hb _ (zc9.2 ⟨j,by omega,rfl⟩)];simp
 unfold qE;rw[this]
theorem Lj{α:Type}{f:α->Bool}{l:List α}(h: ∀x∈l,f x=false):qE f l= -1:=by
 have:l.findIdx? f=none:=by rw[zbX];exact h
 unfold qE;rw[this]
theorem rW{α:Type}(f:α->Bool)(l:List α):(∃(i:Nat) (x:α),l[i]?=some x/\f x=true/\qE f l=(i:Int))\/(qE f l= -1/\ ∀x∈l,f x=false):=by
 cases h:l.findIdx? f with
 |some i=>obtain⟨hi,hf,_⟩:=zbJ.1 h;exact .inl ⟨i,l[i],zae hi,hf,by unfold qE;rw[h]⟩
 |none=>exact .inr ⟨by unfold qE;rw[h],zbX.1 h⟩
theorem getD_some{α:Type}{l:List α}{k:Nat}(h:k<l.length)(d:α):l[k]?=some (l.getD k d):=by rw[zac,zae h];rfl
section
variable{X:XF}
theorem LD.scan{H:List (FuncId×br)}{hk:List (Nat×(S->K (PX×S)))}{f id:Nat}{g:S->K (PX×S)}(hu:uniq PR f=true)(hc:b8 (qe f) (bA PR f id)=true)(hH:HD X H)(hl:QC X f hk)
  {A α:Type} (hd:A->Int->S) (oG:A->List α) (d:α) (t:A->α->Bool) (C:A->Prop) (rt:A->Int->S) (ex:A->S)
  (hr: ∀a (k:Int) ae,C a->(oG a).length<=1000000->0<=k->(k<(oG a).length->k.toNat<(oG a).length->(t a ((oG a).getD k.toNat d)=true->ae (.ret,rt a k))->(t a ((oG a).getD k.toNat d)=false->ae (.normal,hd a (k+1)))->aG H hk f id (hd a k) ae))
  (hx: ∀a (k:Int) ae,C a-> ¬k<(oG a).length->ae (.exit 0,ex a)->aG H hk f id (hd a k) ae)
  (hg: ∀s ae,g s ae-> ∃a,s=hd a 0/\C a/\(oG a).length<=1000000/\(∀i:Int,i=qE (t a) (oG a)->0<=i->ae (.ret,rt a i))/\(qE (t a) (oG a)= -1->ae (.exit 0,ex a))):LD X f id (ah (aO f id) g):=
 LD.par hu hc hH hl (A:=A) (B:=Int) hd (λa k=>C a/\(oG a).length<=1000000/\0<=k/\k.toNat<=(oG a).length/\ ∀y∈(oG a).take k.toNat,t a y=false) (λa k=>((oG a).length-k).toNat)
  (λa x=>(∃i:Int,i=qE (t a) (oG a)/\0<=i/\x=(.ret,rt a i))\/(qE (t a) (oG a)= -1/\x=(.exit 0,ex a)))
  (by
   rintro a k ⟨h1,h2,h3,h4,h5⟩;by_cases hk:k<(oG a).length
   ·have dQ:k.toNat<(oG a).length:=by omega
    refine hr a k _ h1 h2 h3 hk dQ (λht=> .inl ⟨k,?_,h3,rfl⟩) λht=>⟨((oG a).length-(k+1)).toNat,by omega,k+1,rfl,⟨h1,h2,by omega,by omega,λy hy=> ?_⟩,rfl⟩
    ·rw[Gu (getD_some dQ d) ht h5];omega
    rw[show(k+1).toNat=k.toNat+1 by omega,zb7,getD_some dQ d] at hy;rcases zaE.1 hy with hy |hy
    ·exact h5 y hy
    simp at hy;rw[hy];simpa using ht
   refine hx a k _ h1 hk (.inr ⟨Lj λy hy=>h5 y ?_,rfl⟩);rw[zai (by omega)];exact hy)
  (by
   intro s ae h;obtain⟨a,rfl,h1,h2,h3,h4⟩:=hg s ae h;refine⟨a,0,rfl,⟨h1,h2,by simp,by simp,by simp⟩,?_⟩;rintro x (⟨i,h5,h6,rfl⟩| ⟨h5,rfl⟩)
   ·exact h3 i h5 h6
   exact h4 h5)
theorem qdb{l:List It}{i:Nat}(h:i<l.length)(d:It):D.nth (l.map fw) i=fw (l.getD i d):=by rw[aA fw l i h];simp[zac,h]
def it0:It:=((0,0,0),[],false,false)
theorem Lk{α:Type}(f:α->Bool)(l:List α):decide (qE f l>=0)=l.any f:=by
 rcases rW f l with⟨i,x,h1,h2,h3⟩| ⟨h1,h2⟩
 ·rw[h3,zbz.2 ⟨x,zaC h1,h2⟩];simp
 rw[h1];cases h:l.any f with
 |false=>rfl
 |true=>obtain⟨x,hx,hf⟩:=zbz.1 h;rw[h2 x hx] at hf;cases hf
theorem tj(x y:av):(x.1==y.1&&(x.2.1==y.2.1&&true)&&(x.2.2==y.2.2&&true))=(x==y):=by rw[zaF];obtain⟨a,b,c⟩:=x;obtain⟨d,e,f⟩:=y;simp[and_assoc]
theorem X9:LD X 87 2 (ah (aO 87 2) qc6):=
 LD.scan (H:=[]) (hk:=[]) (by kernel_rfl) (by kernel_rfl) .nil .nil
  (A:=List Pl×av) (λa k=>qc5 a.1 a.2 k) (·.1) sV (λa p=>p.1==a.2) (λ_=>True)
  (λa i=>⟨20,[(0,eH a.1),(4,iD i)],[]⟩) (λa=>⟨20,[(0,eH a.1)],[]⟩)
  (by
   rintro⟨l,x⟩ k ae _ hm h0 hk dQ ht hf;dsimp only at*
   (rw[<-qaZ];delta gR gP ia gC gD oS wh Ju Zn Zo cb dH Za Z9 Zj Zt nq Ap iv lF tK Zg ou Z6u qF sb Gt Z6q)
   simp only[zaa];rw[iT dQ];refine gI (k8 hk) (bs ⟨h0,hk⟩ (aq (hZ _) (ay (λh=>ht ?_) λh=>aq (pF (by omega) (by omega)) (hf ?_))))
   ·rw[<-tj];exact h
   rw[<-tj];exact h)
  (by
   rintro⟨l,p⟩ k ae _ hk hp;dsimp only at*
   (rw[<-qaZ];delta gR gP ia gC gD oS wh Ju Zn Zo cb dH Za Z9 Zj Zt nq Ap iv lF tK Zg ou Z6u qF sb Gt Z6q)
   simp only[zaa];exact jq (k9 hk) hp)
  (by rintro s ae ⟨l,p,rfl,hm,h1,h2⟩;exact⟨(l,p),rfl,trivial,hm,h1,h2⟩)
theorem qa1:FD X 87 Sn:=FD.mk (H:=[]) (hk:=[(2,ah (aO 87 2) qc6)]) (by kernel_rfl) .nil (.cons X9 .nil) (by
 intro ps R ae hh;obtain⟨l,x,rfl,rfl,hm,hp⟩:=hh
 (rw[<-qc7];delta QW oO Zt jU n0 gR gP ia gC gD oS wh Ju Z7 ZN cb dH iv lF tK)
 refine⟨l,x,rfl,hm,λi hi h0=> ?_,λh=> ?_⟩
 ·rw[hi];exact hp
 rw[h] at hp;exact hp)
theorem Sx:LD X 87 2 (ah (aO 87 2) Sp):=
 LD.scan (H:=[]) (hk:=[]) (by kernel_rfl) (by kernel_rfl) .nil .nil
  (A:=List Pl×av×Bool) (λa k=>qc8 a.2.2 a.1 a.1.length a.2.1 k) (·.1) sV (λa p=>p.1==a.2.1) (λ_=>True)
  (λa i=>⟨20,[(0,.sl 0 0 a.1.length),(4,iD i)],BG a.2.2 a.1⟩) (λa=>⟨20,[(0,.sl 0 0 a.1.length)],BG a.2.2 a.1⟩)
  (by
   rintro⟨l,x,z⟩ k ae _ hm h0 hk dQ ht hf;dsimp only at*
   (rw[<-Ss];delta gR gP ia gC gD oS Sq iv Nw Zn Zo jE sa Za Z9 Zj D8 Zt nq Ap ZB q8 Zg ou Z6u qF sb Hl mC Sr)
   rw[iT dQ];refine gI (k8 hk) (bs ⟨h0,hk⟩ (aq (k8 (by rw[zaa];exact dQ)) (aq (hZ _) (ay (λh=>ht ?_) λh=>aq (pF (by omega) (by omega)) (hf ?_)))))
   ·rw[<-tj];exact h
   rw[<-tj];exact h)
  (by
   rintro⟨l,p,z⟩ k ae _ hk hp;dsimp only at*
   (rw[<-Ss];delta gR gP ia gC gD oS Sq iv Nw Zn Zo jE sa Za Z9 Zj D8 Zt nq Ap ZB q8 Zg ou Z6u qF sb Hl mC Sr)
   exact jq (k9 hk) hp)
  (by rintro s ae ⟨z,l,p,rfl,hm,h1,h2⟩;exact⟨(l,p,z),rfl,trivial,hm,h1,h2⟩)
theorem Sy:FD X 87 Sv:=FD.mk (H:=[]) (hk:=[(2,ah (aO 87 2) Sp)]) (by kernel_rfl) .nil (.cons Sx .nil) (by
 intro ps R ae hh;obtain⟨z,l,x,rfl,rfl,hm,hp⟩:=hh
 (rw[<-X8];delta QW iv Nw D8 Zt jU n0 ti gR gP ia gC gD oS Sq Z7 ZN jE sa ZB q8)
 refine⟨z,l,x,rfl,hm,λi hi h0=> ?_,λh=> ?_⟩
 ·rw[hi];exact hp
 rw[h] at hp;exact hp)
theorem Ll{α:Type}{f:α->Bool}{l:List α}:0<=qE f l↔ ∃x∈l,f x=true:=by
 rcases rW f l with⟨i,x,h1,h2,h3⟩| ⟨h1,h2⟩
 ·rw[h3];exact⟨λ_=>⟨x,zaC h1,h2⟩,λ_=>by omega⟩
 rw[h1];exact⟨λh=>by omega,λ⟨x,hx,hf⟩=>by rw[h2 x hx] at hf;cases hf⟩
theorem Ya:LD X 91 2 (ah (aO 91 2) qc9):=
 LD.scan (H:=[]) (hk:=[]) (by kernel_rfl) (by kernel_rfl) .nil .nil
  (A:=List av×av) (λa k=>hsH a.1 a.2 k) (·.1) (0,0,0) (λa p=>p==a.2) (λ_=>True)
  (λa i=>⟨18,[(0,cR a.1),(4,.d (.bool true))],[]⟩) (λa=>⟨18,[(0,cR a.1)],[]⟩)
  (by
   rintro⟨l,x⟩ k ae _ hm h0 hk dQ ht hf;dsimp only at*
   (rw[<-qa0];delta gR gP ia gC gD oS wh Ju Zn Zo cb dH Za Z9 Zj ZO Li gu lL DB Zg I6 I7 I8 Z6I wJ pL vp Na)
   simp only[zaa];rw[qcw dQ];refine gI (k8 hk) (bs ⟨h0,hk⟩ (aq (lJ _) (ay (λh=>ht ?_) λh=>aq (pF (by omega) (by omega)) (hf ?_))))
   ·rw[<-tj];exact h
   rw[<-tj];exact h)
  (by
   rintro⟨l,p⟩ k ae _ hk hp;dsimp only at*
   (rw[<-qa0];delta gR gP ia gC gD oS wh Ju Zn Zo cb dH Za Z9 Zj ZO Li gu lL DB Zg I6 I7 I8 Z6I wJ pL vp Na)
   simp only[zaa];exact jq (k9 hk) hp)
  (by
   rintro s ae ⟨l,x,rfl,hm,h1,h2⟩;refine⟨(l,x),rfl,trivial,hm,λi hi h0=>h1 ?_,λh=>h2 λhx=> ?_⟩
   ·rw[hi] at h0;obtain⟨y,hy,he⟩:=Ll.1 h0;have:y=x:=by simpa using he
    exact this▸hy
   have:0<=qE (λp=>p==x) l:=Ll.2 ⟨x,hx,by simp⟩;dsimp only at h;omega)
theorem qa2:FD X 91 Sw:=FD.mk (H:=[]) (hk:=[(2,ah (aO 91 2) qc9)]) (by kernel_rfl) .nil (.cons Ya .nil) (by
 intro ps R ae hh;obtain⟨l,x,rfl,rfl,hm,hp⟩:=hh
 (rw[<-qda];delta Z3 Z4 ZO ZP ib pS gR gP ia gC gD oS wh Ju Z7 ZN cb dH gu lL DB)
 exact⟨l,x,rfl,hm,λh=>yr hp (by simp[h]),λh=>yr hp (by simp[h])⟩)
end
def zB(l:List Pl)(au:List Pl)(aJ:av):D:=D.nth (iv l) (Int.toNat (eN au aJ))
def Z6U(l:List Pl)(au:List Pl)(aJ:av):D:=D.int .i64 (D.aj (D.ar (zB l au aJ) 5))
def Z6T(l:List Pl)(au:List Pl)(aJ:av):D:=D.int .i64 (D.aj (D.ar (zB l au aJ) 4))
def Z6S(l:List Pl)(au:List Pl)(aJ:av):D:=D.int .i64 (D.aj (D.ar (zB l au aJ) 3))
def Z6V(l:List Pl)(au:List Pl)(aJ:av):Nat×En:=(0,En.mk 0 none (Obj.box (50:TypeId) [P.d (Z6S l au aJ),P.d (Z6T l au aJ),P.d (Z6U l au aJ)]))
def Jv:Nat×P:=(5,jE)
def As:Nat×P:=(4,cb)
def Z6O(au:List Pl)(aJ:av)(l:List Pl):Bool:=decide ((0:Int)<=eN au aJ/\eN au aJ<(↑(sb l):Int))
def Z6N(au:List Pl)(aJ:av):Bool:=decide (eN au aJ<(0:Int))
def Z6M(x:av)(y:av):Bool:=Prod.fst x==Prod.fst y&&(ia x==ia y&&true)&&(gR x==gR y&&true)
abbrev wiL(z:Bool)(l:List Pl)(n:Nat)(x y:av)(k:Int):S:=⟨28,[(0,.sl 0 0 n),(4,.ref 1 0 0),(5,.ref 2 0 0),(7,iD k)],BG z l++bxI 1 x++bxI 2 y⟩
def qdc:S->K (PX×S):=λs ae=> ∃z l x y,s=wiL z l l.length x y 0/\l.length<=1000000/\(∀b,b=within l x y->ae (.ret,⟨28,[(0,.sl 0 0 l.length),(6,.d (.bool b))],BG z l⟩))/\(within l x y=true->ae (.exit 0,⟨28,[(0,.sl 0 0 l.length)],BG z l⟩))
def Yb(y:av):List (Nat×En):=[(2,oS y)]
def sc:P:=P.ref 2 0 0
def Z6Y:Nat×P:=(4,jE)
def D9(au:List Pl)(aJ:av):D:=D.nth (iv au) (Int.toNat (eN au aJ))
def Z6W(au:List Pl)(aJ:av):Bool:=decide (Int.toNat (eN au aJ)<sb au)
theorem qf9(z:Bool)(l:List Pl)(n:Nat)(x y:av)(k:Int)(ae:PX×S->Prop):(bif decide (k<=(↑n:Int)) then bif Z6M x y then ae (PX.ret,S.mk 28 [q8 n,(6,ZO)] (D8 z l)) else∃(Nx:Bool) (au:List Pl) (aJ:av),ZB n::iU x=ti au::iU aJ/\D8 z l=D8 Nx au/\n0 au/\bif Z6N au aJ then ae (PX.ret,S.mk 28 (q8 n::Z4p) (D8 Nx au)) else bif decide ((0:Int)<=eN au aJ/\eN au aJ<(↑n:Int)) then bif Z6W au aJ then bif cD PR (104:TypeId) (D9 au aJ) then bif Zj k then ae (PX.normal,S.mk 28 (q8 n::Z6Y::(5,sc)::ZL k) (Nw Nx au::(1,En.mk 0 none (Obj.box (50:TypeId) [P.d (D.int .i64 (D.aj (D.ar (D9 au aJ) 3))),P.d (D.int .i64 (D.aj (D.ar (D9 au aJ) 4))),P.d (D.int .i64 (D.aj (D.ar (D9 au aJ) 5)))]))::Yb y)) else False else False else False else False else ae (PX.exit 0,S.mk 28 [q8 n] (D8 z l)))=(aG [(87,Sv)] [] 86 2 (wiL z l n x y k)) ae:=by kernel_rfl
theorem qdd(z:Bool)(l:List Pl)(n:Nat)(x y:av)(ae:P×List (Nat×En)->Prop):(∃(Nx:Bool) (au:List Pl) (aJ:av) (C5:av),S.mk 28 (q8 n::Z6Y::(5,sc)::rI) (Nw z l::(1,oS x)::Yb y)=S.mk 28 ((0,ti au)::Z6Y::(5,sc)::rI) (Nw Nx au::(1,oS aJ)::Yb C5)/\n0 au/\(∀(b:Bool),b=within au aJ C5->ae (gh b,D8 Nx au))/\(within au aJ C5=true->ae (ZO,D8 Nx au)))=(aK [] [(2,ah (aO 86 2) qdc)] 86 [.sl 0 0 n,.d (bE x),.d (bE y)] (BG z l)) ae:=by kernel_rfl
def qde:br:=λps R ae=> ∃z l x y,ps=[.sl 0 0 l.length,.d (bE x),.d (bE y)]/\R=BG z l/\l.length<=1000000/\ ∀b,b=within l x y->ae (.d (.bool b),BG z l)
abbrev qdf(l:List Pl)(x:av)(k:Int):S:=⟨39,[(0,eH l),(3,.ref 0 0 0),(5,iD k)],bxI 0 x⟩
def gRo:S->K (PX×S):=λs ae=> ∃l x,s=qdf l x 0/\l.length<=1000000/\(∀b,b=lg l x->ae (.ret,⟨39,[(4,.d (.bool b))],[]⟩))/\(lg l x=false->ae (.exit 0,⟨39,[],[]⟩))
def Z71(ae:PX×S->Prop):Prop:=ae (PX.ret,S.mk 39 Zi [])
theorem qga(l:List Pl)(x:av)(k:Int)(ae:PX×S->Prop):(bif decide (k<=(↑(sb l):Int)) then∃(au:List Pl) (aJ:av),lF l::iU x=lF au::iU aJ/\Zx/\n0 au/\bif Z6N au aJ then Z71 ae else bif Z6O au aJ l then bif cD PR (104:TypeId) (zB l au aJ) then bif D.aj (D.ar (zB l au aJ) 3)==(0:Int)&&(D.aj (D.ar (zB l au aJ) 4)==(0:Int)&&true)&&(D.aj (D.ar (zB l au aJ) 5)==(0:Int)&&true) then ae (PX.ret,S.mk 39 Li []) else∃(iG:List Pl) (x:av),[lF l,P.d (D.agg [Z6S l au aJ,Z6T l au aJ,Z6U l au aJ])]=lF iG::iU x/\Zx/\n0 iG/\bif Z6N iG x then Z71 ae else bif Z6O iG x l then bif cD PR (104:TypeId) (zB l iG x) then bif !D.e9 (D.ar (zB l iG x) 7) then Z71 ae else bif Zj k then ae (PX.normal,S.mk 39 (tK l::dH::Zo k) [Z6V l au aJ]) else False else False else False else False else False else ae (PX.exit 0,S.mk 39 [] []))=(aG [(87,Sn)] [] 119 2 (qdf l x k)) ae:=by kernel_rfl
theorem qgb(l:List Pl)(x:av)(ae:P×List (Nat×En)->Prop):(∃(au:List Pl) (aJ:av),S.mk 39 (tK l::dH::ZN) (Ju x)=S.mk 39 (tK au::dH::ZN) (Ju aJ)/\n0 au/\(∀(b:Bool),b=lg au aJ->ae (gh b,[]))/\(lg au aJ=false->Z4 ae))=(aK [] [(2,ah (aO 119 2) gRo)] 119 [eH l,.d (bE x)] []) ae:=by kernel_rfl
def qdg:br:=λps R ae=> ∃l x,ps=[eH l,.d (bE x)]/\R=[]/\l.length<=1000000/\ ∀b,b=lg l x->ae (.d (.bool b),[])
def Gv:br:=λps R ae=> ∃l x,ps=[.sl 0 0 l.length,.d (bE x)]/\R=BG false l/\l.length<=1000000/\ae (iD (eN l x),BG false l)
abbrev riH(l o:List Pl)(n:Nat)(k:Int):S:=⟨43,[(0,eH l),(3,.sl 0 0 n),(4,iD k)],[(0,⟨0,none,.arr 104 false (o.map bK)⟩)]⟩
def gRi:S->K (PX×S):=λs ae=> ∃l,s=riH l [] 0 0/\l.length<=1000000/\ae (.exit 0,⟨43,[(3,.sl 0 0 (oP l).length)],[(0,⟨0,none,.arr 104 false ((oP l).map bK)⟩)]⟩)
def OE(au:List Pl):En:=En.mk 0 none (Obj.arr (104:TypeId) false (iv au))
def Hm(au:List Pl):List (Nat×En):=[(0,OE au)]
def Z7c(k:Int)(ae:PX×S->Prop)(l:List Pl)(n:Nat)(au:List Pl):Prop:=bif Zj k then ae (PX.normal,S.mk 43 (tK l::(3,ZB n)::vr k) (Hm au)) else False
def Ny(l:List Pl)(k:Int):D:=D.int .i64 (D.aj (D.ar (ou l k) 2))
def Nz(l:List Pl)(k:Int):D:=D.int .i64 (D.aj (D.ar (ou l k) 1))
def NA(l:List Pl)(k:Int):D:=D.int .i64 (D.aj (D.ar (ou l k) 0))
def Yc(l:List Pl)(k:Int):List D:=[NA l k,Nz l k,Ny l k,D.int .i64 (D.aj (D.ar (ou l k) 3)),D.int .i64 (D.aj (D.ar (ou l k) 4)),D.int .i64 (D.aj (D.ar (ou l k) 5)),D.str (D.eJ (D.ar (ou l k) 6)),D.bool (D.e9 (D.ar (ou l k) 7))]
def Z79(n:Nat)(au:List Pl)(l:List Pl)(k:Int):En:=En.mk 0 none (Obj.arr (104:TypeId) false (List.take n (iv au)++[D.agg (Yc l k)]))
def Z78(n:Nat)(l:List Pl)(k:Int):Nat:=n+List.length [D.agg (Yc l k)]
def Yd(o:List Pl):List (Nat×En):=[(0,En.mk 0 (some 0) (Obj.arr (104:TypeId) false (iv o)))]
def Jw(l:List Pl)(k:Int):P:=P.d (D.agg [NA l k,Nz l k,Ny l k])
theorem qio(l o:List Pl)(n:Nat)(k:Int)(ae:PX×S->Prop):(bif Z6q k l then bif Gt k l then bif qF l k then∃(t:Int) (r:Int) (i:Int),[Jw l k]=Hb t r i/\Zx/\bif cu t r i then bif Gt k l then bif qF l k then∃(s:List UInt8),[P.d (D.str (D.eJ (D.ar (ou l k) 6)))]=vi s/\Zx/\bif dw s then bif Gt k l then bif qF l k then∃(au:List Pl) (x:av),[ZB n,Jw l k]=ti au::iU x/\Yd o=Yd au/\n0 au/\bif Z6N au x then bif Gt k l then bif qF l k then bif Nat.ble n (sb au)&&aM (Z78 n l k) 72 then bif Zj k then ae (PX.normal,S.mk 43 (tK l::(3,P.sl 0 0 (Z78 n l k))::vr k) [(0,Z79 n au l k)]) else False else False else False else False else Z7c k ae l n au else False else False else Z7c k ae l n o else False else False else Z7c k ae l n o else False else False else ae (PX.exit 0,S.mk 43 [(3,ZB n)] (Hm o)))=(aG [(151,mP),(138,Bm),(87,Gv)] [] 118 3 (riH l o n k)) ae:=by kernel_rfl
def Z7f(au:List Pl):Nat×En:=(0,En.mk 0 none (Obj.arr (104:TypeId) false (List.map bK (oP au))))
def zC:En:=En.mk 0 none (Obj.arr (104:TypeId) false [])
def Z7e(l:List Pl):S:=S.mk 43 (tK l::RU) [(0,zC)]
theorem qgc(l:List Pl)(ae:P×List (Nat×En)->Prop):(∃(au:List Pl),Z7e l=Z7e au/\n0 au/\ae (P.sl 0 0 (List.length (oP au)),[Z7f au]))=(aK [] [(3,ah (aO 118 3) gRi)] 118 [eH l] []) ae:=by kernel_rfl
def hRi:br:=λps R ae=> ∃l,ps=[eH l]/\R=[]/\l.length<=1000000/\ae (.sl 0 0 (oP l).length,[(0,⟨0,none,.arr 104 false ((oP l).map bK)⟩)])
abbrev bxP(n:Nat)(p:Pl):List (Nat×En):=[(n,⟨0,none,.box 104 [.d (.int .i64 p.1.1),.d (.int .i64 p.1.2.1),.d (.int .i64 p.1.2.2),.d (.int .i64 p.2.1.1),.d (.int .i64 p.2.1.2.1),.d (.int .i64 p.2.1.2.2),.d (.str p.2.2.1),.d (.bool p.2.2.2)]⟩)]
abbrev naH(l:List Pl)(p:Pl)(k:Int):S:=⟨54,[(0,eH l),(3,.ref 0 0 0),(5,iD k)],bxP 0 p⟩
def OG(p q:Pl):Bool:=decide (q.2.1=p.2.1)&&(q.2.2.1==p.2.2.1)&&mj q.1 p.1
def gNa:S->K (PX×S):=λs ae=> ∃l p,s=naH l p 0/\l.length<=1000000/\(l.any (OG p)=true->ae (.ret,⟨54,[(3,.ref 0 0 0),(4,sD (lb p.2.2.1 p.1.1 p.1.2.1 p.1.2.2).1)],bxP 0 p⟩))/\(l.any (OG p)=false->ae (.exit 0,⟨54,[(3,.ref 0 0 0)],bxP 0 p⟩))
def Hn:List (Nat×P):=[dH]
def OH(p:Pl):List UInt8:=Prod.fst (Prod.snd (Prod.snd p))
def Sz(p:Pl):Int:=Prod.snd (Prod.snd (Prod.fst (Prod.snd p)))
def SA(p:Pl):Int:=Prod.fst (Prod.snd (Prod.fst (Prod.snd p)))
def SB(p:Pl):Int:=Prod.fst (Prod.fst (Prod.snd p))
def Ye(p:Pl):D:=D.int .i64 (Prod.snd (Prod.snd (Prod.fst p)))
def Yf(p:Pl):D:=D.int .i64 (Prod.fst (Prod.snd (Prod.fst p)))
def Yg(p:Pl):D:=D.int .i64 (Prod.fst (Prod.fst p))
def SC(p:Pl):List (Nat×En):=[(0,En.mk 0 none (Obj.box (104:TypeId) [P.d (Yg p),P.d (Yf p),P.d (Ye p),P.d (D.int .i64 (SB p)),P.d (D.int .i64 (SA p)),P.d (D.int .i64 (Sz p)),P.d (D.str (OH p)),P.d (D.bool (Prod.snd (Prod.snd (Prod.snd p))))]))]
def Z7r(k:Int)(ae:PX×S->Prop)(l:List Pl)(p:Pl):Prop:=bif Zj k then ae (PX.normal,S.mk 54 (tK l::dH::Zo k) (SC p)) else False
def SD(t:Int)(r:Int)(i:Int)(t':Int)(r':Int)(i':Int):Bool:=decide (yq t r i t' r' i'<(0:Int))
def SE(t:Int)(r:Int)(i:Int)(t':Int)(r':Int)(i':Int):List P:=P.d (D.agg (Zt t::Zt r::ZE i))::Hb t' r' i'
def Z7n(p:Pl):List P:=[P.d (D.agg [Yg p,Yf p,Ye p])]
theorem qgd(l:List Pl)(p:Pl)(k:Int)(ae:PX×S->Prop):(bif Z6q k l then bif Gt k l then bif qF l k then bif D.aj (D.ar (ou l k) 3)==SB p&&(D.aj (D.ar (ou l k) 4)==SA p&&true)&&(D.aj (D.ar (ou l k) 5)==Sz p&&true) then bif Gt k l then bif qF l k then bif D.eJ (D.ar (ou l k) 6)==OH p then bif Gt k l then bif qF l k then∃(t:Int) (r:Int) (i:Int) (t':Int) (r':Int) (i':Int),Jw l k::Z7n p=SE t r i t' r' i'/\Zx/\bif SD t r i t' r' i' then∃(s:List UInt8) (t:Int) (r:Int) (i:Int),P.d (D.str (OH p))::Z7n p=P.d (D.str s)::Hb t r i/\Zx/\ae (PX.ret,S.mk 54 [dH,(4,P.d (D.str (Prod.fst (lb s t r i))))] (SC p)) else Z7r k ae l p else False else False else Z7r k ae l p else False else False else Z7r k ae l p else False else False else ae (PX.exit 0,S.mk 54 Hn (SC p)))=(aG [(88,iS),(152,IK)] [] 120 2 (naH l p k)) ae:=by kernel_rfl
theorem qge(l:List Pl)(p:Pl)(ae:P×List (Nat×En)->Prop):(∃(au:List Pl) (l4:Pl),S.mk 54 (tK l::dH::ZN) (SC p)=S.mk 54 (tK au::dH::ZN) (SC l4)/\n0 au/\(List.any au (OG l4)=true->ae (P.d (D.str (Prod.fst (lb (OH l4) (Prod.fst (Prod.fst l4)) (Prod.fst (Prod.snd (Prod.fst l4))) (Prod.snd (Prod.snd (Prod.fst l4)))))),[]))/\(List.any au (OG l4)=false->ae (P.d (D.str (OH l4)),[])))=(aK [] [(2,ah (aO 120 2) gNa)] 120 [eH l,.d (bK p)] []) ae:=by kernel_rfl
def hNa:br:=λps R ae=> ∃l p,ps=[eH l,.d (bK p)]/\R=[]/\l.length<=1000000/\ ∀s,s=Nu l p->ae (sD s,[])
abbrev paH(l:List Pl)(p:Pl)(s:List UInt8):S:=⟨28,[(0,eH l),(3,.ref 0 0 0),(5,sD s)],bxP 0 p⟩
inductive SF(T:List Pl)(V:List av)(x:av)(p:Pl):Prop
 |mk (h1:marked T V x=true) (h2:eo T x=some p)
def gPa:S->K (PX×S):=λs ae=> ∃T V x p w,s=paH (bc T V) p ([47]++Nu (bc T V) p)/\(T.length<=1000/\Rt T/\SF T V x p/\Up T x w)/\ae (.exit 0,⟨28,[(5,sD (pH (w.reverse.map (Lg T V))))],[]⟩)
def Z7u(iF:List UInt8):List UInt8:=[(47:UInt8)]++iF
def Z7t(p:Pl):List P:=[P.d (D.agg [Yg p,Yf p,Ye p,D.int .i64 (SB p),D.int .i64 (SA p),D.int .i64 (Sz p),D.str (OH p),D.bool (Prod.snd (Prod.snd (Prod.snd p)))])]
theorem qip(l:List Pl)(p:Pl)(s:List UInt8)(ae:PX×S->Prop):(bif !(SB p==(0:Int)&&(SA p==(0:Int)&&true)&&(Sz p==(0:Int)&&true)) then∃(au:List Pl) (x:av),[lF l,P.d (D.agg [D.int .i64 (SB p),D.int .i64 (SA p),D.int .i64 (Sz p)])]=lF au::iU x/\Zx/\n0 au/\bif Z6O au x l then bif cD PR (104:TypeId) (zB l au x) then∃(iG:List Pl) (p:Pl),[lF l,P.d (D.agg [D.int .i64 (D.aj (D.ar (zB l au x) 0)),D.int .i64 (D.aj (D.ar (zB l au x) 1)),D.int .i64 (D.aj (D.ar (zB l au x) 2)),Z6S l au x,Z6T l au x,Z6U l au x,D.str (D.eJ (D.ar (zB l au x) 6)),D.bool (D.e9 (D.ar (zB l au x) 7))])]=lF iG::Z7t p/\Zx/\n0 iG/\ ∀(iF:List UInt8),iF=Nu iG p->bif decide (1+rJ iF<=Zy) then bif decide (List.length (Z7u iF)+rJ s<=Zy) then ae (PX.normal,S.mk 28 [tK l,dH,(5,P.d (D.str (Z7u iF++s)))] [(0,En.mk 0 none (Obj.box (104:TypeId) [P.d (D.int .i64 (D.aj (D.ar (zB l au x) 0))),P.d (D.int .i64 (D.aj (D.ar (zB l au x) 1))),P.d (D.int .i64 (D.aj (D.ar (zB l au x) 2))),P.d (Z6S l au x),P.d (Z6T l au x),P.d (Z6U l au x),P.d (D.str (D.eJ (D.ar (zB l au x) 6))),P.d (D.bool (D.e9 (D.ar (zB l au x) 7)))]))]) else False else False else False else False else ae (PX.exit 0,S.mk 28 [(5,P.d (D.str s))] []))=(aG [(120,hNa),(87,Sn)] [] 90 2 (paH l p s)) ae:=by kernel_rfl
theorem qgf(l:List Pl)(p:Pl)(ae:P×List (Nat×En)->Prop):(∃(au:List Pl) (l4:Pl),lF l::Z7t p=lF au::Z7t l4/\Zx/\n0 au/\ ∀(s:List UInt8),s=Nu au l4->bif decide (1+rJ s<=Zy) then∃(T:List Pl) (V:List av) (x:av) (p_2:Pl) (w:List av),S.mk 28 [tK l,dH,(5,P.d (D.str (Z7u s)))] (SC p)=S.mk 28 [(0,P.d (D.sl 8 (List.map bK (bc T V)))),dH,(5,P.d (D.str ([(47:UInt8)]++Nu (bc T V) p_2)))] (SC p_2)/\(jU T<=1000/\Rt T/\SF T V x p_2/\Up T x w)/\ae (P.d (D.str (pH (List.map (Lg T V) (List.reverse w)))),[]) else False)=(aK [(120,hNa)] [(2,ah (aO 90 2) gPa)] 90 [eH l,.d (bK p)] []) ae:=by kernel_rfl
def hPa:br:=λps R ae=> ∃T V p,ps=[eH (bc T V),.d (bK p)]/\R=[]/\(T.length<=1000/\Rt T/\p∈bc T V)/\ae (sD (Lh T V p.1),[])
theorem qo{l:List Pl}{x:av}(h:eo l x=none):eN l x= -1:=by refine Lj λp hp=> ?_;unfold eo at h;simpa using zcm.1 h p hp
theorem mY{l:List Pl}{x:av}{p:Pl}(h:eo l x=some p): ∃i:Nat,eN l x=(i:Int)/\i<l.length/\l.getD i sV=p:=by
 unfold eo at h;obtain⟨h1,i,hi,h2,h3⟩:=List.find?_eq_some_iff_getElem.1 h;refine⟨i,Gu (x:=p) (by rw[zae hi,h2]) h1 λy hy=> ?_,hi,?_⟩
 ·obtain⟨j,hj,rfl⟩:=zaW hy;rw[List.getElem_take];rw[zay] at hj;simpa using h3 j (by omega)
 rw[zac,zae hi];exact h2
section
variable{X:XF}
theorem qdh{x y:av}(h:(x.1==y.1&&(x.2.1==y.2.1&&true)&&(x.2.2==y.2.2&&true))=true):x=y:=by rw[tj] at h;simpa using h
theorem qdi{x y:av}(h:(x.1==y.1&&(x.2.1==y.2.1&&true)&&(x.2.2==y.2.2&&true))=false):x≠y:=by rw[tj] at h;simpa using h
theorem Yh:LD X 86 2 (ah (aO 86 2) qdc):=LD.par (H:=[(87,Sv)]) (hk:=[]) (by kernel_rfl) (by kernel_rfl) (.cons Sy .nil) .nil
 (A:=List Pl×av×av×Bool) (B:=av×Int) (λa b=>wiL a.2.2.2 a.1 a.1.length b.1 a.2.2.1 b.2)
 (λa b=>a.1.length<=1000000/\0<=b.2/\b.2<=a.1.length+1/\lV a.1 (a.1.length+1-b.2.toNat) b.1 a.2.2.1=within a.1 a.2.1 a.2.2.1)
 (λa b=>a.1.length+1-b.2.toNat)
 (λa r=>(r=(.ret,⟨28,[(0,.sl 0 0 a.1.length),(6,.d (.bool (within a.1 a.2.1 a.2.2.1)))],BG a.2.2.2 a.1⟩))\/(within a.1 a.2.1 a.2.2.1=true/\r=(.exit 0,⟨28,[(0,.sl 0 0 a.1.length)],BG a.2.2.2 a.1⟩)))
 (by
  rintro⟨l,x0,y,z⟩ ⟨x,k⟩ ⟨hm,h0,hk,hw⟩;dsimp only at*
  (rw[<-qf9];delta gR gP ia gC gD oS Yb iv Nw Zn ZL sc jE Z6Y Za Z9 Zj D9 sb Z6W Z3 Z4p Z6N jU n0 ti um iU ZB D8 ZO q8 Z6M)
  refine bg (λh=> ?_) λh=> ?_
  ·obtain⟨n,hn⟩: ∃n,l.length+1-k.toNat=n+1:=⟨l.length-k.toNat,by omega⟩
   rw[hn] at hw;simp only[lV] at hw;refine ay (λhe=> ?_) λhe=>⟨z,l,x,rfl,rfl,hm,?_⟩
   ·rw[zao (qdh he)] at hw;left;rw[<-hw]
   rw[zam (qdi he)] at hw;cases hp:eo l x with
   |none=>rw[hp] at hw;rw[qo hp];refine gI (k8 (by decide)) (.inl ?_);simp only at hw;rw[<-hw]
   |some p=>rw[hp] at hw;obtain⟨i,hi,bQ,hip⟩:=mY hp;rw[hi];simp only[zb6];rw[iT bQ,hip];refine jq (k9 (by omega)) (bs ⟨by omega,by omega⟩ (aq (k8 (by rw[zaa];exact bQ)) (aq (hZ p) (aq (pF (by omega) (by omega)) ⟨l.length+1-(k+1).toNat,by omega,(p.2.1,k+1),rfl,⟨hm,by simp only;omega,by simp only;omega,?_⟩,rfl⟩))));simp only;rw[show l.length+1-(k+1).toNat=n by omega];exact hw
  have:l.length+1-k.toNat=0:=by omega
  rw[this] at hw;exact .inr ⟨hw.symm,rfl⟩)
 (by
  rintro s ae ⟨z,l,x,y,rfl,hm,h1,h2⟩;refine⟨(l,x,y,z),(x,0),rfl,⟨hm,by simp,by simp only;omega,rfl⟩,?_⟩;rintro r (rfl | ⟨h3,rfl⟩)
  ·exact h1 _ rfl
  exact h2 h3)
theorem qa3:FD X 86 qde:=FD.mk (H:=[]) (hk:=[(2,ah (aO 86 2) qdc)]) (by kernel_rfl) .nil (.cons Yh .nil) (by
 intro ps R ae hh;obtain⟨z,l,x,y,rfl,rfl,hm,hp⟩:=hh
 (rw[<-qdd];delta ZO iv Nw D8 gh jU n0 ti gR gP ia gC gD oS Yb Z7 rI sc jE Z6Y ZB q8)
 exact⟨z,l,x,y,rfl,hm,λb hb=>hp b hb,λh=>hp true h.symm⟩)
theorem qdj:LD X 119 2 (ah (aO 119 2) gRo):=LD.par (H:=[(87,Sn)]) (hk:=[]) (by kernel_rfl) (by kernel_rfl) (.cons qa1 .nil) .nil
 (A:=List Pl×av) (B:=av×Int) (λa b=>qdf a.1 b.1 b.2)
 (λa b=>a.1.length<=1000000/\0<=b.2/\b.2<=a.1.length+1/\sW a.1 (a.1.length+1-b.2.toNat) b.1=lg a.1 a.2)
 (λa b=>a.1.length+1-b.2.toNat)
 (λa r=>(r=(.ret,⟨39,[(4,.d (.bool (lg a.1 a.2)))],[]⟩))\/(lg a.1 a.2=false/\r=(.exit 0,⟨39,[],[]⟩)))
 (by
  rintro⟨l,x0⟩ ⟨x,k⟩ ⟨hm,h0,hk,hw⟩;dsimp only at*
  (rw[<-qga];delta iv zB Z6U Z6T Z6S Z6V Zn Zo cb dH lF tK Za Z9 Zj ZO Li sb Z6O Z3 Zi Z71 Z6N jU n0 Zx gR gP ia gC gD um iU)
  simp only[zaa];refine bg (λh=> ?_) λh=> ?_
  ·obtain⟨n,hn⟩: ∃n,l.length+1-k.toNat=n+1:=⟨l.length-k.toNat,by omega⟩
   rw[hn] at hw;simp only[sW] at hw;refine⟨l,x,rfl,rfl,hm,?_⟩;cases hp:eo l x with
   |none=>rw[hp] at hw;rw[qo hp];refine gI (k8 (by decide)) (.inl ?_);simp only at hw;rw[<-hw]
   |some p=>
    rw[hp] at hw;simp only at hw;obtain⟨i,hi,bQ,hip⟩:=mY hp;rw[hi];simp only[zb6];rw[iT bQ,hip];refine jq (k9 (by omega)) (bs ⟨by omega,by omega⟩ (aq (hZ p) (ay (λhe=> ?_) λhe=>⟨l,p.2.1,rfl,rfl,hm,?_⟩)))
    ·rw[zao (qdh (y:=aB) he)] at hw;left;rw[<-hw]
    rw[zam (qdi (y:=aB) he)] at hw;cases hq:eo l p.2.1 with
    |none=>rw[hq] at hw;rw[qo hq];refine gI (k8 (by decide)) (.inl ?_);simp only at hw;rw[<-hw]
    |some q=>
     rw[hq] at hw;simp only at hw;obtain⟨j,hj,EC,hjq⟩:=mY hq;rw[hj];simp only[zb6];rw[iT EC,hjq];refine jq (k9 (by omega)) (bs ⟨by omega,by omega⟩ (aq (hZ q) (ay (λhd=> ?_) λhd=>aq (pF (by omega) (by omega)) ⟨l.length+1-(k+1).toNat,by omega,(p.2.1,k+1),rfl,⟨hm,by simp only;omega,by simp only;omega,?_⟩,rfl⟩)))
     ·have Qa:(!q.2.2.2)=true:=hd;rw[zao (by simpa using Qa)] at hw;left;rw[<-hw]
     have Qa:(!q.2.2.2)=false:=hd;rw[zam (by simpa using Qa)] at hw;simp only;rw[show l.length+1-(k+1).toNat=n by omega];exact hw
  have:l.length+1-k.toNat=0:=by omega
  rw[this] at hw;exact .inr ⟨hw.symm,rfl⟩)
 (by
  rintro s ae ⟨l,x,rfl,hm,h1,h2⟩;refine⟨(l,x),(x,0),rfl,⟨hm,by simp,by simp only;omega,rfl⟩,?_⟩;rintro r (rfl | ⟨h3,rfl⟩)
  ·exact h1 _ rfl
  exact h2 h3)
theorem qgg:FD X 119 qdg:=FD.mk (H:=[]) (hk:=[(2,ah (aO 119 2) gRo)]) (by kernel_rfl) .nil (.cons qdj .nil) (by
 intro ps R ae hh;obtain⟨l,x,rfl,rfl,hm,hp⟩:=hh
 (rw[<-qgb];delta Z3 Z4 gh jU n0 gR gP ia gC gD oS wh Ju Z7 ZN cb dH iv lF tK)
 exact⟨l,x,rfl,hm,λb hb=>hp b hb,λh=>hp false h.symm⟩)
theorem SG:FD X 87 Gv:=Sy.weaken λps R ae h=>by obtain⟨l,x,h1,h2,h3,h4⟩:=h;exact⟨false,l,x,h1,h2,h3,h4⟩
theorem Gw{l:List Pl}{x:av}:eN l x<0↔(eo l x).isSome=false:=by
 cases h:eo l x with
 |none=>rw[qo h];simp
 |some p=>obtain⟨i,hi,_⟩:=mY h;rw[hi];simp
theorem wP(l:List Pl):(l.map bK).take l.length=l.map bK:=zai (by simp)
theorem qdk:LD X 118 3 (ah (aO 118 3) gRi):=LD.par (H:=[(151,mP),(138,Bm),(87,Gv)]) (hk:=[]) (by kernel_rfl) (by kernel_rfl) (.cons rH (.cons C4 (.cons SG .nil))) .nil
 (A:=List Pl) (B:=Int) (λa k=>riH a (oP (a.take k.toNat)) (oP (a.take k.toNat)).length k)
 (λa k=>a.length<=1000000/\0<=k/\k.toNat<=a.length)
 (λa k=>(a.length-k).toNat)
 (λa x=>x=(.exit 0,⟨43,[(3,.sl 0 0 (oP a).length)],[(0,⟨0,none,.arr 104 false ((oP a).map bK)⟩)]⟩))
 (by
  rintro l k ⟨hm,h0,h1⟩
  (rw[<-qio];delta iv OE Hm Zn vr ZB lF tK Za Z9 Zj Z7c Zg ou Ny Nz NA Yc Z79 Z78 sb Z6N jU n0 Yd gR gP ia gC gD um iU ti vi Zx Zt ZE Hb Jw qF Gt Z6q)
  simp only[zaa];refine bg (λh=> ?_) λh=> ?_
  ·have hk:k.toNat<l.length:=by omega
   rw[iT hk];have e:oP (l.take (k+1).toNat)=IW (oP (l.take k.toNat)) (l.getD k.toNat sV):=by rw[show(k+1).toNat=k.toNat+1 by omega];exact IX IW [] l _ k.toNat hk
   have htl:=DA (l.take k.toNat);rw[zay] at htl;generalize l.getD k.toNat sV=p at e;generalize oP (l.take k.toNat)=T at e htl;have go: ∀T',IW T p=T'-> ∃m,m<((l.length:Int)-k).toNat/\ ∃b,(riH l T' T'.length (k+1):S)=riH l (oP (l.take b.toNat)) (oP (l.take b.toNat)).length b/\(l.length<=1000000/\0<=b/\b.toNat<=l.length)/\m=((l.length:Int)-b).toNat:=λT' hT=>⟨((l.length:Int)-(k+1)).toNat,by omega,k+1,by rw[e,hT],⟨hm,by omega,by omega⟩,rfl⟩
   have fit:decide ((-9223372036854775808:Int)<=k+(1:Int)/\k+(1:Int)<=(9223372036854775807:Int))=true:=pF (by omega) (by omega);refine bs ⟨h0,by omega⟩ (aq (hZ _) ⟨p.1.1,p.1.2.1,p.1.2.2,rfl,rfl,ay (λh3=>bs ⟨h0,by omega⟩ (aq (hZ _) ⟨p.2.2.1,rfl,rfl,ay (λh4=>bs ⟨h0,by omega⟩ (aq (hZ _) ⟨T,p.1,rfl,rfl,by omega,ay (λh5=>bs ⟨h0,by omega⟩ (aq (hZ _) (aq ?_ (aq fit ?_)))) λh5=>aq fit ?_⟩)) λh4=>aq fit ?_⟩)) λh3=>aq fit ?_⟩)
   ·simp[aM];omega
   ·have hs:(eo T p.1).isSome=false:=Gw.1 (zbE h5);have:=go (T++[p]) (by unfold IW;simp[hs,yw,h3,h4]);rw[wP];have e1:(T++[p]).length=T.length+1:=by simp
    have e2:(T++[p]).map bK=T.map bK++[bK p]:=by simp
    simp only[riH,e1,e2] at this;exact this
   ·have hs:(eo T p.1).isSome=true:=by
     cases hs:(eo T p.1).isSome with
     |true=>rfl
     |false=>exact absurd (Gw.2 hs) (zcj h5)
    exact go T (by unfold IW;simp[hs])
   ·refine go T ?_;unfold IW;split
    ·rfl
    rw[zam (by simp[yw,h4])]
   refine go T ?_;unfold IW;split
   ·rfl
   rw[zam (by simp[yw,h3])]
  rw[zai (by omega)];rfl)
 (by rintro s ae ⟨l,rfl,hm,hp⟩;refine⟨l,0,rfl,⟨hm,by decide,by simp⟩,?_⟩;rintro x rfl;exact hp)
theorem qiq:FD X 118 hRi:=FD.mk (H:=[]) (hk:=[(3,ah (aO 118 3) gRi)]) (by kernel_rfl) .nil (.cons qdk .nil) (by
 intro ps R ae hh;obtain⟨l,rfl,rfl,hm,hp⟩:=hh
 (rw[<-qgc];delta Z7f jU n0 zC Z7 Ng ZQ RU iv lF tK Z7e)
 exact⟨l,rfl,hm,hp⟩)
theorem qdl:LD X 120 2 (ah (aO 120 2) gNa):=
 LD.scan (H:=[(88,iS),(152,IK)]) (hk:=[]) (by kernel_rfl) (by kernel_rfl) (.cons mQ (.cons QR .nil)) .nil
  (A:=List Pl×Pl) (λa k=>naH a.1 a.2 k) (·.1) sV (λa q=>OG a.2 q) (λ_=>True)
  (λa _=>⟨54,[(3,.ref 0 0 0),(4,sD (lb a.2.2.2.1 a.2.1.1 a.2.1.2.1 a.2.1.2.2).1)],bxP 0 a.2⟩) (λa=>⟨54,[(3,.ref 0 0 0)],bxP 0 a.2⟩)
  (by
   rintro⟨l,p⟩ k ae _ hm h0 hk dQ ht hf;dsimp only at*
   (rw[<-qgd];delta cb dH Hn OH Sz SA SB Ye Yf Yg SC Zn Zo iv lF tK Za Z9 Zj Z7r Zt ZE Hb SD Zx SE Z7n Zg ou Ny Nz NA Jw qF sb Gt Z6q)
   simp only[zaa];rw[iT dQ];generalize l.getD k.toNat sV=q at ht hf;have fit:decide ((-9223372036854775808:Int)<=k+(1:Int)/\k+(1:Int)<=(9223372036854775807:Int))=true:=pF (by omega) (by omega);refine gI (k8 hk) (bs ⟨h0,hk⟩ (aq (hZ _) (ay (λh1=>bs ⟨h0,hk⟩ (aq (hZ _) (ay (λh2=>bs ⟨h0,hk⟩ (aq (hZ _) ⟨_,_,_,_,_,_,rfl,rfl,ay (λh3=>⟨_,_,_,_,rfl,rfl,ht ?_⟩) λh3=>aq fit (hf ?_)⟩)) λh2=>aq fit (hf ?_)))) λh1=>aq fit (hf ?_))))
   ·have Oi:q.2.1=p.2.1:=qdh h1;have h3':=(h9 q.1 p.1).1 (zbE h3);have h2':(q.2.2.1==p.2.2.1)=true:=h2;simp[OG,Oi,h2',h3']
   ·have h3': ¬mj q.1 p.1=true:=λh=>zcj h3 ((h9 q.1 p.1).2 h);simp[OG,h3']
   ·have h2':(q.2.2.1==p.2.2.1)=false:=h2;simp[OG,h2']
   have Oi:q.2.1≠p.2.1:=qdi h1;simp[OG,Oi])
  (by
   rintro⟨l,p⟩ k ae _ hk hp;dsimp only at*
   (rw[<-qgd];delta cb dH Hn OH Sz SA SB Ye Yf Yg SC Zn Zo iv lF tK Za Z9 Zj Z7r Zt ZE Hb SD Zx SE Z7n Zg ou Ny Nz NA Jw qF sb Gt Z6q)
   simp only[zaa];exact jq (k9 hk) hp)
  (by
   rintro s ae ⟨l,p,rfl,hm,h1,h2⟩;refine⟨(l,p),rfl,trivial,hm,λi hi h0=>h1 ?_,λh=>h2 ?_⟩
   ·rw[<-Lk (OG p) l,<-hi];exact k8 h0
   rw[<-Lk (OG p) l];dsimp only at h;rw[h];rfl)
theorem qgh:FD X 120 hNa:=FD.mk (H:=[]) (hk:=[(2,ah (aO 120 2) gNa)]) (by kernel_rfl) .nil (.cons qdl .nil) (by
 intro ps R ae hh;obtain⟨l,p,rfl,rfl,hm,hp⟩:=hh
 (rw[<-qge];delta OH jU n0 Sz SA SB Ye Yf Yg SC Z7 ZN cb dH iv lF tK)
 have e:Nu l p=if l.any (OG p)=true then(lb p.2.2.1 p.1.1 p.1.2.1 p.1.2.2).1 else p.2.2.1:=rfl
 exact⟨l,p,rfl,hm,λh=>hp _ (by rw[e,zao h]),λh=>hp _ (by rw[e,h];rfl)⟩)
theorem SH{T:List Pl}{V:List av}(hu:Uq T):Uq (bc T V):=by unfold Uq;exact FW hu V
theorem NB{T:List Pl}{V:List av}(hu:Uq T){x:av}{p:Pl}(h:marked T V x=true)(hp:eo T x=some p):eo (bc T V) x=some p:=by have:=KT (SH (V:=V) hu) (Sk h hp);rwa [(jr hp).2] at this
theorem qdm:LD X 90 2 (ah (aO 90 2) gPa):=LD.par (H:=[(120,hNa),(87,Sn)]) (hk:=[]) (by kernel_rfl) (by kernel_rfl) (.cons qgh (.cons qa1 .nil)) .nil
 (A:=List Pl×List av×List av) (B:=Pl×List UInt8×av×List av×List av) (λa b=>paH (bc a.1 a.2.1) b.1 b.2.1)
 (λ⟨T,V,w0⟩ ⟨p,s,x,v,w⟩=>T.length<=1000/\Rt T/\w0.length<=T.length/\marked T V x=true/\eo T x=some p/\Up T x w/\w0=v++w/\s=pH ((v++[x]).reverse.map (Lg T V))/\(∀u∈w,marked T V u=true)/\(pH (w0.reverse.map (Lg T V))).length<=201*T.length/\s.length<=201*(v.length+1))
 (λ_ b=>b.2.2.2.2.length)
 (λ⟨T,V,w0⟩ r=>r=(.exit 0,⟨28,[(5,sD (pH (w0.reverse.map (Lg T V))))],[]⟩))
 (by
  rintro⟨T,V,w0⟩ ⟨p,s,x,v,w⟩ ⟨hm,hT,hw0,hmx,hpx,hw,Ch,hs,hmw,hlen,Ko⟩;dsimp only at*
  have hsL:(bc T V).length<=T.length:=za5 _ _
  (rw[<-qip];delta cb dH iv lF tK Z7u Zy rJ OH Sz SA SB Ye Yf Yg Z7t zB Z6U Z6T Z6S sb Z6O jU n0 Zx gR gP ia gC gD um iU)
  simp only[zaa];cases hw with
  |top h h0=>
   rw[hpx] at h;cases h;refine jq ?_ ?_
   ·rw[h0];rfl
   show _=_;rw[Ch,hs]
  | @step _ p' q w' h h0 hq hd Fp=>
   rw[hpx] at h;cases h;obtain⟨r,hr⟩:=Fp.hd;have hmq:marked T V p.2.1=true:=hmw _ (by rw[hr];simp);have hqs:=NB hT.1 hmq hq;obtain⟨i,hi,bQ,NC⟩:=mY hqs;have r7:=wO (bc T V) (hT.2 q (jr hq).1);have hnx:Lg T V p.2.1=Nu (bc T V) q:=by unfold Lg;rw[hq]
   have hvl:v.length+1<=T.length:=by have:=congrArg List.length Ch;simp at this;omega
   refine gI ?_ ⟨bc T V,p.2.1,rfl,rfl,by omega,?_⟩
   ·have:=tj p.2.1 (0,0,0);rw[show(p.2.1==(0,0,0))=false by simpa using h0] at this;simp only at this;show(!_)=true;rw[this];rfl
   rw[hi];simp only[zb6];rw[iT bQ,NC];refine bs ⟨by omega,by omega⟩ (aq (hZ q) ⟨bc T V,q,rfl,rfl,by omega,λs1 r8=> ?_⟩);subst r8;refine bs (by omega) (bs (by simp;omega) ⟨w'.length,by simp,(q,[47]++Nu (bc T V) q++s,p.2.1,v++[x],w'),rfl,⟨hm,hT,hw0,hmq,hq,Fp,by rw[Ch];simp,?_,λu hu=>hmw u (by simp[hu]),hlen,?_⟩,rfl⟩)
   ·simp only;rw[hs,<-hnx];simp[pH]
   simp only;simp;omega)
 (by
  rintro s ae ⟨T,V,x,p,w,rfl,⟨hm,hT,⟨hmx,hpx⟩,hw⟩,hp⟩;obtain⟨w2,hw2,mw⟩:=Bq hmx;have:=hw.one hw2;subst this;have hnx:Lg T V x=Nu (bc T V) p:=by unfold Lg;rw[hpx]
  have r7:=wO (bc T V) (hT.2 p (jr hpx).1);refine⟨(T,V,w),(p,[47]++Nu (bc T V) p,x,[],w),rfl,⟨hm,hT,hw.len,hmx,hpx,hw,rfl,by rw[<-hnx];simp[pH],mw,Nv hT hw,by simp;omega⟩,?_⟩;rintro r rfl;exact hp)
theorem qir:FD X 90 hPa:=FD.mk (H:=[(120,hNa)]) (hk:=[(2,ah (aO 90 2) gPa)]) (by kernel_rfl) (.cons qgh .nil) (.cons qdm .nil) (by
 intro ps R ae hh;obtain⟨T,V,p,rfl,rfl,⟨hm,hT,hp0⟩,hp⟩:=hh;obtain⟨hpT,Gp⟩:=X7 hp0;have EE:=KT hT.1 hpT;obtain⟨w,hw,_⟩:=Bq Gp;have hsL:(bc T V).length<=T.length:=za5 _ _;have r7:=wO (bc T V) (hT.2 p hpT)
 (rw[<-qgf];delta jU OH Sz SA SB Ye Yf Yg SC Z7u cb dH iv lF tK Zy rJ n0 Zx Z7t)
 refine⟨bc T V,p,rfl,rfl,by omega,λs hs=> ?_⟩;subst hs;refine bs (by omega) ⟨T,V,p.1,p,w,rfl,⟨hm,hT,⟨Gp,EE⟩,hw⟩,?_⟩;unfold Lh at hp;rw[Sl hw] at hp;exact hp)
end
abbrev Lm(n:Nat)(z:Bool)(l:List Pl):List (Nat×En):=[(n,⟨0,none,.arr 104 z (l.map bK)⟩)]
abbrev NF(n:Nat)(l:List It):List (Nat×En):=[(n,⟨0,none,.arr 72 false (l.map fw)⟩)]
abbrev skH(z:Bool)(l:List Pl)(n:Nat)(v:List av)(o:List Pl)(m:Nat)(i:Int):S:=⟨62,[(0,.sl 0 0 n),(1,cR v),(5,.sl 1 0 m),(6,iD i)],Lm 0 z l++Lm 1 false o⟩
abbrev skI(z:Bool)(l:List Pl)(n:Nat)(v:List av)(o:List Pl)(m:Nat)(i:Int)(b:Bool)(k:Int):S:=⟨62,[(0,.sl 0 0 n),(1,cR v),(5,.sl 1 0 m),(6,iD i),(7,.d (.bool b)),(8,iD k)],Lm 0 z l++Lm 1 false o⟩
def Ln(l:List Pl)(v:List av)(p q:Pl):Bool:=decide (q.1∈v)&&lg l q.1&&within l q.1 p.1
def qdn:S->K (PX×S):=λs ae=> ∃z l v o m i b,s=skI z l l.length v o m i b 0/\(l.length<=1000000/\v.length<=1000000/\0<=i/\i<l.length)/\
 ∀z' b',b'=(b ||l.any (Ln l v (l.getD i.toNat sV)))->ae (.exit 2,⟨62,[(0,.sl 0 0 l.length),(1,cR v),(5,.sl 1 0 m),(6,iD i),(7,.d (.bool b'))],Lm 0 z' l++Lm 1 false o⟩)
def Z7A(l:List Pl):Nat×En:=(0,En.mk 0 none (Obj.arr (104:TypeId) true (iv l)))
def vA(b:Bool):Nat×P:=(7,gh b)
def Gx(o:List Pl):List (Nat×En):=[(1,OE o)]
def Ho(z:Bool)(mZ:List Pl):Nat×En:=(0,En.mk 0 none (Obj.arr (104:TypeId) z (iv mZ)))
def qG(k:Int):List (Nat×P):=[(8,P.d (Zn k))]
def Vv(m:Nat):Nat×P:=(5,P.sl 1 0 m)
theorem qgi(z:Bool)(l:List Pl)(n:Nat)(v:List av)(o:List Pl)(m:Nat)(i:Int)(b:Bool)(k:Int)(ae:PX×S->Prop):(bif Sr k n then bif mC k n then bif Hl k l then bif qF l k then∃(au:List av) (x:av),[lL v,Jw l k]=lL au::iU x/\Zx/\pS au/\bif decide (x∈au) then bif mC k n then bif Hl k l then bif qF l k then∃(iG:List Pl) (x:av),[P.d (D.sl 8 (List.take n (iv l))),Jw l k]=lF iG::iU x/\Zx/\n0 iG/\ ∀(SI:Bool),SI=lg iG x->bif SI then bif mC k n then bif Hl k l then bif qF l k then bif mC i n then bif Hl i l then bif qF l i then∃(z:Bool) (mZ:List Pl) (x:av) (y:av),[ZB n,Jw l k,Jw l i]=ti mZ::um x::iU y/\[(0,En.mk 0 (some 0) (Obj.arr (104:TypeId) true (iv l)))]=D8 z mZ/\n0 mZ/\ ∀(b_2:Bool),b_2=within mZ x y->bif b_2 then bif Zj k then ae (PX.normal,S.mk 62 (q8 n::nk v::Vv m::ZK i::(7,ZO)::qG k) (Ho z mZ::Gx o)) else False else bif Zj k then ae (PX.normal,S.mk 62 (q8 n::nk v::Vv m::ZK i::vA b::qG k) (Ho z mZ::Gx o)) else False else False else False else False else False else False else False else bif Zj k then ae (PX.normal,S.mk 62 (q8 n::nk v::Vv m::ZK i::vA b::qG k) (Z7A l::Gx o)) else False else False else False else False else bif Zj k then ae (PX.normal,S.mk 62 (q8 n::nk v::Vv m::ZK i::vA b::qG k) (Ho z l::Gx o)) else False else False else False else False else ae (PX.exit 2,S.mk 62 [q8 n,nk v,Vv m,ZK i,vA b] (Ho z l::Gx o)))=(aG [(91,Sw),(119,qdg),(86,qde)] [] 89 8 (skI z l n v o m i b k)) ae:=by kernel_rfl
def Jx:List (Nat×P):=[(8,P.d Z7)]
theorem qgj(z:Bool)(l:List Pl)(n:Nat)(v:List av)(o:List Pl)(m:Nat)(i:Int)(ae:PX×S->Prop):(bif Sr i n then∃(Nx:Bool) (au:List Pl) (de:List av) (aP:List Pl) (bZ:Nat) (aH:Int) (b:Bool),S.mk 62 (q8 n::nk v::Vv m::ZK i::(7,P.d Z3)::Jx) (Ho z l::Gx o)=S.mk 62 ((0,ti au)::nk de::Vv bZ::ZK aH::vA b::Jx) (Ho Nx au::Gx aP)/\(n0 au/\pS de/\(0:Int)<=aH/\aH<(↑(jU au):Int))/\ ∀(z' b':Bool),b'=(b ||List.any au (Ln au de (List.getD au (Zg aH) sV)))->bif b' then bif decide ((0:Int)<=aH/\aH<(↑(jU au):Int)) then bif Hl aH au then bif qF au aH then bif Nat.ble bZ (sb aP)&&aM (Z78 bZ au aH) 72 then bif Zj aH then ae (PX.normal,S.mk 62 ((0,ti au)::nk de::(5,P.sl 1 0 (Z78 bZ au aH))::ZA aH) [Ho z' au,(1,Z79 bZ aP au aH)]) else False else False else False else False else False else bif Zj aH then ae (PX.normal,S.mk 62 ((0,ti au)::nk de::Vv bZ::ZA aH) (Ho z' au::Gx aP)) else False else ae (PX.exit 0,S.mk 62 [ZC m] (Hm o)))=(aG [] [(8,ah (aO 89 8) qdn)] 89 4 (skH z l n v o m i)) ae:=by kernel_rfl
def qdo:S->K (PX×S):=λs ae=> ∃l v,s=skH false (oP l) (oP l).length v [] 0 0/\(l.length<=1000000/\v.length<=1000000)/\ae (.exit 0,⟨62,[(5,.sl 0 0 (bc (oP l) v).length)],Lm 0 false (bc (oP l) v)⟩)
def Z7G(l:List Pl)(de:List av):Nat×En:=(0,En.mk 0 none (Obj.arr (104:TypeId) false (List.map bK (bc (oP l) de))))
def Jy:List (Nat×P):=[(6,P.d Z7)]
def zD:P:=P.sl 1 0 0
def Z7E:List (Nat×P):=(5,zD)::Jy
def Z7F(au:List Pl)(v:List av):S:=S.mk 62 ((0,P.sl 0 0 (List.length (oP au)))::nk v::Z7E) [Z7f au,(1,zC)]
theorem qis(l:List Pl)(v:List av)(ae:P×List (Nat×En)->Prop):(∃(au:List Pl),[lF l]=[lF au]/\Zx/\n0 au/\ ∃(l:List Pl) (de:List av),Z7F au v=Z7F l de/\(n0 l/\pS de)/\ae (P.sl 0 0 (List.length (bc (oP l) de)),[Z7G l de]))=(aK [(118,hRi)] [(4,ah (aO 89 4) qdo)] 89 [eH l,cR v] []) ae:=by kernel_rfl
def Jz:br:=λps R ae=> ∃l v,ps=[eH l,cR v]/\R=[]/\(l.length<=1000000/\v.length<=1000000)/\ae (.sl 0 0 (bc (oP l) v).length,Lm 0 false (bc (oP l) v))
abbrev imH(z:Bool)(l:List Pl)(n:Nat)(v:List av)(o:List It)(m:Nat)(i:Int):S:=⟨77,[(1,cR v),(5,.sl 0 0 n),(6,.sl 1 0 m),(7,iD i)],Lm 0 z l++NF 1 o⟩
abbrev imI(z:Bool)(l:List Pl)(n:Nat)(v:List av)(o:List It)(m:Nat)(i k:Int):S:=⟨77,[(1,cR v),(5,.sl 0 0 n),(6,.sl 1 0 m),(7,iD i),(9,iD k)],Lm 0 z l++NF 1 o⟩
def qdp:S->K (PX×S):=λs ae=> ∃z l n v o a i k,s=imI z l n v (o++[a]) (o.length+1) i k/\(k=(o.length:Int)/\o.length<=1000000)/\ae (.exit 2,imH z l n v (cL Gs o a) (o.length+1) i)
def Z7R(o:List It):En:=En.mk 0 none (Obj.arr (72:TypeId) false (List.map fw o))
def rX(i:Int):Nat×P:=(7,P.d (Zt i))
def JA(m:Nat):Nat×P:=(6,P.sl 1 0 m)
def Z7S(ae:PX×S->Prop)(v:List av)(n:Nat)(m:Nat)(i:Int)(z:Bool)(l:List Pl)(o:List It):Prop:=ae (PX.exit 2,S.mk 77 [nk v,ZC n,JA m,rX i] [Ho z l,(1,Z7R o)])
def SJ(o:List It)(k:Int):D:=D.nth (List.map fw o) (Zg k)
def Z7L(o:List It)(k:Int):List D:=[D.int .i64 (D.aj (D.ar (SJ o k) 0)),D.int .i64 (D.aj (D.ar (SJ o k) 1)),D.int .i64 (D.aj (D.ar (SJ o k) 2)),D.str (D.eJ (D.ar (SJ o k) 3)),D.bool (D.e9 (D.ar (SJ o k) 4)),D.bool (D.e9 (D.ar (SJ o k) 5))]
def Z7Q(k:Int):List (Nat×P):=[(9,Zs k)]
def Vw(o:List It)(k:Int):D:=D.nth (List.map fw o) (Zc k)
def Z7M(o:List It)(k:Int):List D:=List.set (List.map fw o) (Zg k) (D.aW (D.agg (Z7L o k)) [D.int .i64 (D.aj (D.ar (Vw o k) 0)),D.int .i64 (D.aj (D.ar (Vw o k) 1)),D.int .i64 (D.aj (D.ar (Vw o k) 2)),D.str (D.eJ (D.ar (Vw o k) 3)),D.bool (D.e9 (D.ar (Vw o k) 4)),D.bool (D.e9 (D.ar (Vw o k) 5))])
def Z7N(o:List It)(k:Int):D:=D.nth (Z7M o k) (Zc k)
def wQ(k:Int)(m:Nat):Bool:=decide ((0:Int)<=k-(1:Int)/\k-(1:Int)<(↑m:Int))
def Z7H(k:Int)(o:List It):Bool:=decide (Zg k<List.length (List.map fw o))
theorem qgk(z:Bool)(l:List Pl)(n:Nat)(v:List av)(o:List It)(m:Nat)(i k:Int)(ae:PX×S->Prop):(bif Zr k then bif mC k m then bif Z7H k o then bif cD PR (72:TypeId) (SJ o k) then bif Zb k then bif wQ k m then bif decide (Zc k<List.length (List.map fw o)) then bif cD PR (72:TypeId) (Vw o k) then bif Op.bytesLess (D.eJ (D.ar (SJ o k) 3)) (D.eJ (D.ar (Vw o k) 3)) then bif Zb k then bif Zb k then bif wQ k m then bif decide (Zc k<List.length (List.map fw o)) then bif cD PR (72:TypeId) (Vw o k) then bif mC k m then bif Z7H k o then bif cD PR (72:TypeId) (SJ o k) then bif mC k m then bif Z7H k o then bif cD PR (72:TypeId) (SJ o k) then bif wQ k m then bif decide (Zc k<List.length (Z7M o k)) then bif cD PR (72:TypeId) (Z7N o k) then bif Zb k then ae (PX.normal,S.mk 77 (nk v::ZC n::JA m::rX i::Z7Q k) [Ho z l,(1,En.mk 0 none (Obj.arr (72:TypeId) false (List.set (Z7M o k) (Zc k) (D.aW (D.agg [D.int .i64 (D.aj (D.ar (Z7N o k) 0)),D.int .i64 (D.aj (D.ar (Z7N o k) 1)),D.int .i64 (D.aj (D.ar (Z7N o k) 2)),D.str (D.eJ (D.ar (Z7N o k) 3)),D.bool (D.e9 (D.ar (Z7N o k) 4)),D.bool (D.e9 (D.ar (Z7N o k) 5))]) (Z7L o k)))))]) else False else False else False else False else False else False else False else False else False else False else False else False else False else False else False else Z7S ae v n m i z l o else False else False else False else False else False else False else False else Z7S ae v n m i z l o)=(aG [] [] 56 9 (imI z l n v o m i k)) ae:=by kernel_rfl
def Z7U(k:Int):Nat×P:=(9,P.d (Zt k))
def Z7T(l:List Pl)(i:Int)(T:List Pl)(V:List av)(p:Pl)(au:List av)(x:av):List D:=[D.agg [NA l i,Nz l i,Ny l i,D.str (Lh T V (Prod.fst p)),D.bool (D.e9 (D.ar (ou l i) 7)),D.bool !decide (x∈au)]]
theorem qgl(z:Bool)(l:List Pl)(n:Nat)(v:List av)(o:List It)(m:Nat)(i:Int)(ae:PX×S->Prop):(bif Sr i n then bif mC i n then bif Hl i l then bif qF l i then∃(T:List Pl) (V:List av) (p:Pl),[P.d (D.sl 8 (List.take n (iv l))),P.d (D.agg (Yc l i))]=P.d (D.sl 8 (List.map bK (bc T V)))::Z7t p/\Zx/\(jU T<=1000/\Rt T/\p∈bc T V)/\ ∃(au:List av) (x:av),[lL v,Jw l i]=lL au::iU x/\Zx/\pS au/\bif Nat.ble m (List.length (List.map fw o))&&aM (m+List.length (Z7T l i T V p au x)) 48 then bif decide (Z9<=(↑(m+List.length (Z7T l i T V p au x)):Int)-(1:Int)/\(↑(m+List.length (Z7T l i T V p au x)):Int)-(1:Int)<=Za) then∃(z:Bool) (iG:List Pl) (cH:Nat) (de:List av) (aP:List It) (a:It) (aH:Int) (k:Int),S.mk 77 [nk v,ZC n,(6,P.sl 1 0 (m+List.length (Z7T l i T V p au x))),rX i,(9,P.d (D.int .i64 ((↑(m+List.length (Z7T l i T V p au x)):Int)-(1:Int))))] [Z7A l,(1,En.mk 0 none (Obj.arr (72:TypeId) false (List.take m (List.map fw o)++Z7T l i T V p au x)))]=S.mk 77 [nk de,ZC cH,(6,P.sl 1 0 (List.length aP+1)),rX aH,Z7U k] [Ho z iG,(1,En.mk 0 none (Obj.arr (72:TypeId) false (List.map fw (aP++[a]))))]/\(k=(↑(List.length aP):Int)/\List.length aP<=1000000)/\bif Zj aH then ae (PX.normal,S.mk 77 (nk de::ZC cH::(6,P.sl 1 0 (List.length aP+1))::ZL aH) [Ho z iG,(1,En.mk 0 none (Obj.arr (72:TypeId) false (List.map fw (cL Gs aP a))))]) else False else False else False else False else False else False else ae (PX.exit 0,S.mk 77 [(6,ZB m)] [(0,Z7R o)]))=(aG [(90,hPa),(91,Sw)] [(9,ah (aO 56 9) qdp)] 56 4 (imH z l n v o m i)) ae:=by kernel_rfl
def qdq:S->K (PX×S):=λs ae=> ∃T v,s=imH false (bc T v) (bc T v).length v [] 0 0/\(T.length<=1000/\Rt T/\v.length<=1000000)/\ae (.exit 0,⟨77,[(6,.sl 0 0 (jT T v).length)],NF 0 (jT T v)⟩)
def Vx:En:=En.mk 0 none (Obj.arr (72:TypeId) false [])
def Z7V:List (Nat×P):=(6,zD)::rI
theorem qit(l:List Pl)(v:List av)(ae:P×List (Nat×En)->Prop):(∃(au:List Pl) (de:List av),[lF l,lL v]=[lF au,lL de]/\Zx/\(n0 au/\pS de)/\ ∃(T:List Pl) (Ha:List av),S.mk 77 (nk v::(5,P.sl 0 0 (List.length (bc (oP au) de)))::Z7V) [Z7G au de,(1,Vx)]=S.mk 77 (nk Ha::(5,P.sl 0 0 (List.length (bc T Ha)))::Z7V) [(0,En.mk 0 none (Obj.arr (104:TypeId) false (List.map bK (bc T Ha)))),(1,Vx)]/\(jU T<=1000/\Rt T/\pS Ha)/\ae (P.sl 0 0 (List.length (jT T Ha)),[(0,En.mk 0 none (Obj.arr (72:TypeId) false (List.map fw (jT T Ha))))]))=(aK [(89,Jz)] [(4,ah (aO 56 4) qdq)] 56 [eH l,cR v] []) ae:=by kernel_rfl
def DC:br:=λps R ae=> ∃l v,ps=[eH l,cR v]/\R=[]/\(l.length<=1000/\v.length<=1000000)/\ae (.sl 0 0 (jT (oP l) v).length,NF 0 (jT (oP l) v))
theorem Yi{T:List Pl}(hT:Rt T):eo T aB=none:=by
 cases h:eo T aB with
 |none=>rfl
 |some p=>obtain⟨h1,h2⟩:=jr h;have:=hT.2 p h1;simp[yw,h2,cu] at this
theorem JB{T:List Pl}{V:List av}(hT:Rt T){p:Pl}(hp:p∈T):T.any (Ln T V p)=marked T V p.1:=by
 have dI:p.1≠aB:=λe=>by have:=hT.2 p hp;simp[yw,e,cu] at this
 have hw: ∀{x w},Up T x w->within T x p.1=decide (p.1∈w):=λ{x w} h=>IZ h dI (Yi hT) _ (by have:=h.len;omega);rw[zaF,zbz,rL];constructor
 ·rintro⟨q,hq,h⟩;simp only[Ln,zab,zah] at h;obtain⟨⟨h1,h2⟩,h3⟩:=h;obtain⟨w,Fp⟩:=yz.1 h2;rw[hw Fp] at h3;exact⟨q.1,h1,w,Fp,by simpa using h3⟩
 rintro⟨x,hx,w,Fp,hm⟩;obtain⟨q,hq⟩:=Fp.at;obtain⟨q1,q2⟩:=jr hq;refine⟨q,q1,?_⟩;simp only[Ln,zab,zah,q2];exact⟨⟨hx,yz.2 ⟨w,Fp⟩⟩,by rw[hw Fp];simpa using hm⟩
theorem NG{α:Type}(f:α->Bool)(l:List α)(d:α){k:Nat}(h:k<l.length):(l.take (k+1)).any f=((l.take k).any f ||f (l.getD k d)):=by rw[zb7,getD_some h d];simp
theorem DE{α:Type}(f:α->Bool)(l:List α)(d:α){k:Nat}(h:k<l.length):(l.take (k+1)).filter f=(l.take k).filter f++(if f (l.getD k d) then [l.getD k d] else []):=by rw[zb7,getD_some h d,zb4];simp only[Option.toList_some,List.filter_cons,List.filter_nil]
theorem SK{α β:Type}(f:α->β)(pre nY:List α)(b a:α)(u v:β)(hu:u=f b)(hv:v=f a):(((pre++b::a::nY).map f).set (pre.length+1) u).set pre.length v=(pre++a::b::nY).map f:=by subst hu;subst hv;simp
section
variable{X:XF}
theorem Yj:LD X 89 8 (ah (aO 89 8) qdn):=LD.par (H:=[(91,Sw),(119,qdg),(86,qde)]) (hk:=[]) (by kernel_rfl) (by kernel_rfl) (.cons qa2 (.cons qgg (.cons qa3 .nil))) .nil
 (A:=List Pl×List av×List Pl×Nat×Int×Bool) (B:=Bool×Bool×Int) (λ⟨l,v,o,m,i,_⟩ ⟨z,b,k⟩=>skI z l l.length v o m i b k)
 (λ⟨l,v,_,_,i,b0⟩ ⟨_,b,k⟩=>l.length<=1000000/\v.length<=1000000/\0<=i/\i<l.length/\0<=k/\k<=l.length/\b=(b0 || (l.take k.toNat).any (Ln l v (l.getD i.toNat sV))))
 (λ⟨l,_⟩ ⟨_,_,k⟩=>(l.length-k).toNat)
 (λ⟨l,v,o,m,i,b0⟩ x=> ∃z' b',b'=(b0 ||l.any (Ln l v (l.getD i.toNat sV)))/\x=(.exit 2,⟨62,[(0,.sl 0 0 l.length),(1,cR v),(5,.sl 1 0 m),(6,iD i),(7,.d (.bool b'))],Lm 0 z' l++Lm 1 false o⟩))
 (by
  rintro⟨l,v,o,m,i,b0⟩ ⟨z,b,k⟩ ⟨hm,hv,oN,hi,h0,hk,hb⟩;dsimp only at*
  (rw[<-qgi];delta iv Z7A gh vA OE Gx Ho Zn qG ZO Zt ZK Vv gu lL nk ZB q8 Za Z9 Zj Nw D8 gR gP ia gC gD um jU ti n0 lF ib pS Zx iU Zg ou Ny Nz NA Jw qF sb Hl mC Sr)
  refine bg (λh=> ?_) λh=> ?_
  ·have dQ:k.toNat<l.length:=by omega
   have bj:i.toNat<l.length:=by omega
   have JC:=NG (Ln l v (l.getD i.toNat sV)) l sV dQ;rw[iT dQ,iT bj];generalize l.getD k.toNat sV=q at JC;generalize l.getD i.toNat sV=p at JC hb;have fit:decide ((-9223372036854775808:Int)<=k+(1:Int)/\k+(1:Int)<=(9223372036854775807:Int))=true:=pF (by omega) (by omega);have go: ∀z' b',b'=(b ||Ln l v p q)-> ∃m',m'<((l.length:Int)-k).toNat/\ ∃b2:Bool×Bool×Int,(skI z' l l.length v o m i b' (k+1):S)=skI b2.1 l l.length v o m i b2.2.1 b2.2.2/\
     (l.length<=1000000/\v.length<=1000000/\0<=i/\i<l.length/\0<=b2.2.2/\b2.2.2<=l.length/\b2.2.1=(b0 || (l.take b2.2.2.toNat).any (Ln l v p)))/\m'=((l.length:Int)-b2.2.2).toNat:=λz' b' dj=>⟨((l.length:Int)-(k+1)).toNat,by omega,(z',b',k+1),rfl,⟨hm,hv,oN,hi,by simp only;omega,by simp only;omega,by simp only;rw[show(k+1).toNat=k.toNat+1 by omega,JC,dj,hb,zde]⟩,rfl⟩
   have dl:decide (k.toNat<(l.map bK).length)=true:=k8 (by rw[zaa];exact dQ);have di:decide (i.toNat<(l.map bK).length)=true:=k8 (by rw[zaa];exact bj);refine bs ⟨h0,h⟩ (aq dl (aq (hZ q) ⟨v,q.1,rfl,rfl,hv,ay (λh1=>bs ⟨h0,h⟩ (aq dl (aq (hZ q) ⟨l,q.1,by rw[wP];rfl,rfl,hm,λb1 jL=>ay (λh2=>bs ⟨h0,h⟩ (aq dl (aq (hZ q) (bs ⟨oN,hi⟩ (aq di (aq (hZ p) ⟨true,l,q.1,p.1,rfl,rfl,hm,λb2 cr=>ay (λh3=>aq fit (go _ _ ?_)) λh3=>aq fit (go _ _ ?_)⟩)))))) λh2=>aq fit (go _ _ ?_)⟩))) λh1=>aq fit (go _ _ ?_)⟩))
   ·unfold Ln;rw[h1,<-jL,h2,<-cr,h3];simp
   ·unfold Ln;rw[h1,<-jL,h2,<-cr,h3];simp
   ·unfold Ln;rw[h1,<-jL,h2];simp
   unfold Ln;rw[h1];simp
  refine⟨z,b,?_,rfl⟩;rw[hb,zai (by omega)])
 (by rintro s ae ⟨z,l,v,o,m,i,b,rfl,⟨hm,hv,oN,hi⟩,hp⟩;refine⟨(l,v,o,m,i,b),(z,b,0),rfl,⟨hm,hv,oN,hi,by simp,by simp,by simp⟩,?_⟩;rintro x ⟨z',b',h1,rfl⟩;exact hp z' b' h1)
theorem Yk:LD X 89 4 (ah (aO 89 4) qdo):=LD.par (H:=[]) (hk:=[(8,ah (aO 89 8) qdn)]) (by kernel_rfl) (by kernel_rfl) .nil (.cons Yj .nil)
 (A:=List Pl×List av) (B:=Bool×Int) (λa b=>skH b.1 a.1 a.1.length a.2 ((a.1.take b.2.toNat).filter λp=>marked a.1 a.2 p.1) ((a.1.take b.2.toNat).filter λp=>marked a.1 a.2 p.1).length b.2)
 (λa b=>a.1.length<=1000000/\a.2.length<=1000000/\Rt a.1/\0<=b.2/\b.2<=a.1.length)
 (λa b=>(a.1.length-b.2).toNat)
 (λa x=>x=(.exit 0,⟨62,[(5,.sl 0 0 (bc a.1 a.2).length)],Lm 0 false (bc a.1 a.2)⟩))
 (by
  rintro⟨l,v⟩ ⟨z,i⟩ ⟨hm,hv,hT,h0,hi⟩;dsimp only at*
  (rw[<-qgj];delta iv OE Hm ZB ZC Zg ou Ny Nz NA Yc Z79 Zn ZA Za Z9 Zj Z78 sb qF Hl jU ib pS n0 gh vA ti Gx Ho Z7 Jx Z3 Zt ZK Vv gu lL nk q8 Sr)
  refine bg (λh=> ?_) λh=> ?_
  ·have bj:i.toNat<l.length:=by omega
   have kC:=DE (λp:Pl=>marked l v p.1) l sV bj;have Gp:l.getD i.toNat sV∈l:=zaC (getD_some bj sV);have vH:((l.take i.toNat).filter λp=>marked l v p.1).length<=l.length:=zaI (za5 _ _) (by rw[zay];omega);refine⟨z,l,v,_,_,i,false,rfl,⟨hm,hv,h0,h⟩,λz' b' dj=> ?_⟩;rw[JB hT Gp] at dj;rw[iT bj];generalize l.getD i.toNat sV=p at kC dj;generalize hoo:((l.take i.toNat).filter λp=>marked l v p.1)=o at kC vH;have fit:decide ((-9223372036854775808:Int)<=i+(1:Int)/\i+(1:Int)<=(9223372036854775807:Int))=true:=pF (by omega) (by omega);have go: ∀o',((l.take (i+1).toNat).filter λp=>marked l v p.1)=o'-> ∃m',m'<((l.length:Int)-i).toNat/\ ∃b2:Bool×Int,(skH z' l l.length v o' o'.length (i+1):S)=skH b2.1 l l.length v ((l.take b2.2.toNat).filter λp=>marked l v p.1) ((l.take b2.2.toNat).filter λp=>marked l v p.1).length b2.2/\
     (l.length<=1000000/\v.length<=1000000/\Rt l/\0<=b2.2/\b2.2<=l.length)/\m'=((l.length:Int)-b2.2).toNat:=λo' gb=>⟨((l.length:Int)-(i+1)).toNat,by omega,(z',i+1),by simp only;rw[gb],⟨hm,hv,hT,by simp only;omega,by simp only;omega⟩,rfl⟩
   have hs:(i+1).toNat=i.toNat+1:=by omega
   refine ay (λhb=>bs ⟨h0,h⟩ (aq (k8 (by rw[zaa];exact bj)) (aq (hZ p) (aq ?_ (aq fit ?_))))) λhb=>aq fit ?_
   ·simp[aM];omega
   ·have:=go (o++[p]) (by rw[hs,kC,zao (by rw[<-hb,dj];rfl)]);rw[wP];have e1:(o++[p]).length=o.length+1:=by simp
    have e2:(o++[p]).map bK=o.map bK++[bK p]:=by simp
    simp only[skH,Lm,e1,e2] at this;exact this
   exact go o (by
    have:marked l v p.1=false:=by rw[<-hb,dj];rfl
    rw[hs,kC,this];simp)
  rw[zai (by omega)];rfl)
 (by rintro s ae ⟨l,v,rfl,⟨hm,hv⟩,hp⟩;have htl:=DA l;refine⟨(oP l,v),(false,0),rfl,⟨by simp only;omega,hv,Sj l,by simp,by simp⟩,?_⟩;rintro x rfl;exact hp)
theorem SL:FD X 89 Jz:=FD.mk (H:=[(118,hRi)]) (hk:=[(4,ah (aO 89 4) qdo)]) (by kernel_rfl) (.cons qiq .nil) (.cons Yk .nil) (by
 intro ps R ae hh;obtain⟨l,v,rfl,rfl,⟨hm,hv⟩,hp⟩:=hh
 (rw[<-qis];delta Z7G ib pS zC Z7f Z7 Jy zD Z7E gu lL nk Z7F jU n0 Zx iv lF)
 exact⟨l,rfl,rfl,hm,l,v,rfl,⟨hm,hv⟩,hp⟩)
theorem Lo{l:List It}{i:Nat}(h:i<l.length)(x:It)(hx:l[i]?=some x):D.nth (l.map fw) i=fw x:=by rw[qdb h it0];congr 1;rw[zac,hx];rfl
theorem Yl:LD X 56 9 (ah (aO 56 9) qdp):=LD.par (H:=[]) (hk:=[]) (by kernel_rfl) (by kernel_rfl) .nil .nil
 (A:=Bool×List Pl×Nat×List av×List It×It×Int) (B:=List It×List It) (λ⟨z,l,n,v,o,a,i⟩ ⟨pre,nY⟩=>imI z l n v (pre++a::nY) (o.length+1) i (pre.length:Int))
 (λ⟨_,_,_,_,o,a,_⟩ ⟨pre,nY⟩=>o.length<=1000000/\pre.length+nY.length=o.length/\(nU Gs a pre.reverse).reverse++nY=cL Gs o a)
 (λ_ ⟨pre,_⟩=>pre.length)
 (λ⟨z,l,n,v,o,a,i⟩ x=>x=(.exit 2,imH z l n v (cL Gs o a) (o.length+1) i))
 (by
  rintro⟨z,l,n,v,o,a,i⟩ ⟨pre,nY⟩ ⟨hm,hl,hr⟩;dsimp only at*
  (rw[<-qgk];delta Z7R iv Ho Zt rX JA ZB ZC gu lL nk Z7S Zg SJ Z7L Zs Z7Q Zc Vw Z7M Z7N wQ Za Z9 Zb Z7H mC Zr)
  rcases zcG pre with rfl | ⟨pre,b,rfl⟩
  ·refine jq (k9 (by simp)) ?_;show _=_;rw[<-hr];rfl
  simp only[List.concat_eq_append] at*
  rw[zan,zcH] at hl;have fV:(((pre++[b]).length:Int)).toNat=pre.length+1:=by simp
  have r6:(((pre++[b]).length:Int)-1).toNat=pre.length:=by simp
  rw[fV,r6];have hlen:(((pre++[b])++a::nY).map fw).length=pre.length+nY.length+2:=by simp;omega
  have n1:D.nth (((pre++[b])++a::nY).map fw) (pre.length+1)=fw a:=Lo (by simp) _ (by simp);have n2:D.nth (((pre++[b])++a::nY).map fw) pre.length=fw b:=Lo (by simp) _ (by simp);have n3: ∀u,D.nth ((((pre++[b])++a::nY).map fw).set (pre.length+1) u) pre.length=fw b:=λu=>by rw[<-n2];simp only[D.nth,zac];rw[zaX (by omega)]
  have hc:(((pre++[b]).length:Nat):Int)=(pre.length:Int)+1:=by simp
  rw[hc];rw[n1,n2];simp only[zbf,hlen,n3];have dl: ∀x,x<pre.length+nY.length+2->decide (x<pre.length+nY.length+2)=true:=λx h=>k8 h;refine gI (k8 (by omega)) ?_
  repeat (first
   |refine aq (k8 (show _/\_ from⟨by omega,by omega⟩)) ?_
   |refine aq (k8 (show _<_ by omega)) ?_
   |refine aq (qf8 _) ?_)
  refine ay (λbI=> ?_) λbI=> ?_
  ·repeat (first
    |refine aq (k8 (show _/\_ from⟨by omega,by omega⟩)) ?_
    |refine aq (k8 (show _<_ by omega)) ?_
    |refine aq (qf8 _) ?_)
   have Ps:Gs a b=true:=bI;refine⟨pre.length,by simp,(pre,b::nY),?_,⟨hm,by simp only[zap];omega,?_⟩,rfl⟩
   ·have hsw:=SK fw pre nY b a (fw b) (fw a) rfl rfl;show _=imI z l n v (pre++a::b::nY) (o.length+1) i (pre.length:Int);have hk3:(pre.length:Int)+1-1=(pre.length:Int):=by omega
    rw[hk3];simp only[imI,NF];rw[<-hsw];simp only[zaZ,zb9];rfl
   simp only;rw[<-hr,zcO,List.reverse_singleton,zb9,nU,zao Ps];simp
  have Ps: ¬Gs a b=true:=by rw[show Gs a b=false from bI];simp
  show _=_;rw[zcO,List.reverse_singleton,zb9,nU,zam Ps] at hr;rw[<-hr];simp)
 (by rintro s ae ⟨z,l,n,v,o,a,i,k,rfl,⟨hk,hm⟩,hp⟩;subst hk;refine⟨(z,l,n,v,o,a,i),(o,[]),rfl,⟨hm,by simp,by simp[cL]⟩,?_⟩;rintro x rfl;exact hp)
theorem Ym:LD X 56 4 (ah (aO 56 4) qdq):=LD.par (H:=[(90,hPa),(91,Sw)]) (hk:=[(9,ah (aO 56 9) qdp)]) (by kernel_rfl) (by kernel_rfl) (.cons qir (.cons qa2 .nil)) (.cons Yl .nil)
 (A:=List Pl×List av) (B:=Bool×Int) (λ⟨T,v⟩ ⟨z,i⟩=>imH z (bc T v) (bc T v).length v (cj Gs (((bc T v).take i.toNat).map (ly T v))) (cj Gs (((bc T v).take i.toNat).map (ly T v))).length i)
 (λ⟨T,v⟩ ⟨_,i⟩=>T.length<=1000/\Rt T/\v.length<=1000000/\0<=i/\i<=(bc T v).length)
 (λ⟨T,v⟩ ⟨_,i⟩=>((bc T v).length-i).toNat)
 (λ⟨T,v⟩ x=>x=(.exit 0,⟨77,[(6,.sl 0 0 (jT T v).length)],NF 0 (jT T v)⟩))
 (by
  rintro⟨T,v⟩ ⟨z,i⟩ ⟨hm,hT,hv,h0,hi⟩;dsimp only at*
  have hsL:(bc T v).length<=T.length:=za5 _ _
  (rw[<-qgl];delta Z7R ZB Zn ZL Za Z9 Zj iv Ho Zt Z7U Z7A rX ZC gu lL nk Zg ou Ny Nz NA Z7T ib pS gR gP ia gC gD um iU Jw jU Zx OH Sz SA SB Ye Yf Yg Z7t Yc qF sb Hl mC Sr)
  refine bg (λh=> ?_) λh=> ?_
  ·have bj:i.toNat<(bc T v).length:=by omega
   have Gp:(bc T v).getD i.toNat sV∈bc T v:=zaC (getD_some bj sV);have lM:((bc T v).take (i+1).toNat).map (ly T v)=((bc T v).take i.toNat).map (ly T v)++[ly T v ((bc T v).getD i.toNat sV)]:=by rw[show(i+1).toNat=i.toNat+1 by omega,zb7,getD_some bj sV];simp
   have lY:(cj Gs (((bc T v).take i.toNat).map (ly T v))).length=i.toNat:=by rw[(b9 _).length_eq,zaa,zay];omega
   have Oz:cj Gs (((bc T v).take (i+1).toNat).map (ly T v))=cL Gs (cj Gs (((bc T v).take i.toNat).map (ly T v))) (ly T v ((bc T v).getD i.toNat sV)):=by rw[lM];unfold cj;rw[za2];rfl
   rw[iT bj];generalize (bc T v).getD i.toNat sV=p at Gp Oz;generalize cj Gs (((bc T v).take i.toNat).map (ly T v))=o at lY Oz;have qgm:(cj Gs (((bc T v).take (i+1).toNat).map (ly T v))).length=o.length+1:=by rw[Oz,(gL _ _).length_eq];simp
   have fit:decide ((-9223372036854775808:Int)<=i+(1:Int)/\i+(1:Int)<=(9223372036854775807:Int))=true:=pF (by omega) (by omega);refine bs ⟨h0,h⟩ (aq (k8 (by rw[zaa];exact bj)) (aq (hZ p) ⟨T,v,p,by rw[wP];rfl,rfl,⟨hm,hT,Gp⟩,v,p.1,rfl,rfl,hv,aq ?_ (aq ?_ ⟨true,bc T v,(bc T v).length,v,o,ly T v p,i,((o.length+1:Nat):Int)-1,?_,⟨by omega,by omega⟩,aq fit ⟨((bc T v).length-(i+1)).toNat,by omega,(true,i+1),?_,⟨hm,hT,hv,by simp only;omega,by simp only;omega⟩,rfl⟩⟩)⟩))
   ·simp[aM];omega
   ·refine k8 (show(-9223372036854775808:Int)<=((o.length+1:Nat):Int)-1/\((o.length+1:Nat):Int)-1<=9223372036854775807 from⟨by omega,by omega⟩)
   ·have e2:(o++[ly T v p]).map fw=(o.map fw).take o.length++[fw (ly T v p)]:=by rw[zai (by simp)];simp
    rw[e2];rfl
   simp only;rw[qgm,Oz];rfl
  have qgn:(bc T v).take i.toNat=bc T v:=zai (by omega);rw[qgn];rfl)
 (by rintro s ae ⟨T,v,rfl,⟨hm,hT,hv⟩,hp⟩;refine⟨(T,v),(false,0),rfl,⟨hm,hT,hv,by simp,by simp⟩,?_⟩;rintro x rfl;exact hp)
theorem SM:FD X 56 DC:=FD.mk (H:=[(89,Jz)]) (hk:=[(4,ah (aO 56 4) qdq)]) (by kernel_rfl) (.cons SL .nil) (.cons Ym .nil) (by
 intro ps R ae hh;obtain⟨l,v,rfl,rfl,⟨hm,hv⟩,hp⟩:=hh
 (rw[<-qit];delta jU Vx Z7G Z7 rI zD Z7V gu lL nk ib pS n0 Zx iv lF)
 have htl:=DA l;exact⟨l,v,rfl,rfl,⟨by omega,hv⟩,oP l,v,rfl,⟨by omega,Sj l,hv⟩,hp⟩)
end
abbrev Td:=av×Pl
def ltT(a b:Td):Bool:=mj a.1 b.1
def ltN(a b:Pl):Bool:=mj a.1 b.1
def Vy(o:List Td)(t:Td):List Td:=if(o.any λx=>x.1==t.1)=true then o else cL ltT o t
def JD(a:List av)(p:List Pl):List Td:=(a.zip p).foldl Vy []
def SN(o:List Pl)(t:Td):List Pl:=
 if t.2.1=aB\/within o t.2.2.1 t.2.1=true then o
 else if 0<=eN o t.2.1 then o.set (eN o t.2.1).toNat (t.2.1,t.2.2.1,t.2.2.2.1,(o.getD (eN o t.2.1).toNat sV).2.2.2) else cL ltN o t.2
def NH(l:List Td):List Pl:=l.foldl SN []
def Au(x:Pl)(o:aX):List Pl:=if o.kind=0/\o.node=x.1 then [(x.1,x.2.1,x.2.2.1,o.dir)] else []
def mdG(x:Pl)(g:ak):List Pl:=g.ops.flatMap (Au x)
def Ea(l:List ak)(x:Pl):List Pl:=l.flatMap (mdG x)
def Hp(l:List ak)(p:List Pl):List Pl:=p.flatMap (Ea l)
def SO(gone:List bf)(o:List av)(d:bf):List av:=if d∈gone\/d.1∈o then o else cL mj o d.1
def NI(hv gone:List bf):List av:=hv.foldl (SO gone) []
theorem Yn(o:List Td)(t:Td):(Vy o t).length<=o.length+1:=by
 unfold Vy;split
 ·omega
 rw[(gL _ _).length_eq];simp
theorem Lp: ∀(l o:List Td),(l.foldl Vy o).length<=o.length+l.length
 | [],_=>by simp
 |x::r,o=>by have:=Lp r (Vy o x);have:=Yn o x;simp only[za9,zap];omega
theorem wR(a:List av)(p:List Pl):(JD a p).length<=a.length:=by have:=Lp (a.zip p) [];simp only[List.length_zip,zat] at this;unfold JD;omega
theorem Yo(o:List Pl)(t:Td):(SN o t).length<=o.length+1:=by
 unfold SN;split
 ·omega
 split
 ·simp
 rw[(gL _ _).length_eq];simp
theorem Lq: ∀(l:List Td) (o:List Pl),(l.foldl SN o).length<=o.length+l.length
 | [],_=>by simp
 |x::r,o=>by have:=Lq r (SN o x);have:=Yo o x;simp only[za9,zap];omega
theorem DF(l:List Td):(NH l).length<=l.length:=by simpa [NH] using Lq l []
theorem Yp(g:List bf)(o:List av)(d:bf):(SO g o d).length<=o.length+1:=by
 unfold SO;split
 ·omega
 rw[(gL _ _).length_eq];simp
theorem Gy(g:List bf): ∀(l:List bf) (o:List av),(l.foldl (SO g) o).length<=o.length+l.length
 | [],_=>by simp
 |x::r,o=>by have:=Gy g r (SO g o x);have:=Yp g o x;simp only[za9,zap];omega
theorem Lr(hv g:List bf):(NI hv g).length<=hv.length:=by simpa [NI] using Gy g hv []
theorem Yq{s:az}{k n:Int}{o:aX}(h:jR s k o=some n):0<=n:=by
 unfold jR at h;split at h
 ·cases h
 split at h
 ·split at h<;>cases h;decide
 split at h
 ·split at h<;>cases h;decide
 split at h
 ·split at h<;>cases h;decide
 split at h
 ·split at h
  next hh=>cases h;have:=hh.2.2.2;unfold mT at this;rw[zab,zah] at this;omega
  cases h
 split at h
 ·split at h<;>cases h;decide
 cases h
theorem Gz{s:az}{k n:Int}{o:aX}(h:jR s k o=some n)(h0:o.kind=0):o.node=(s.1,s.2,k)/\n=1:=by
 unfold jR at h;rw[zao h0] at h;split at h
 ·cases h
 split at h
 next hh=>cases h;exact⟨hh.1,rfl⟩
 cases h
theorem Ls(x:Pl)(o:aX):(Au x o).length<=1:=by unfold Au;split<;>simp
theorem Lt{s:az}(x:Pl): ∀(l:List aX) (k:Int),iu s k l=true->(l.flatMap (Au x)).length<=1/\(l.flatMap (Au x)≠[]-> ∃j,k<=j/\x.1=(s.1,s.2,j))
 | [],_,_=>⟨by simp,λh=>absurd rfl h⟩
 |o::r,k,h=>by
  unfold iu at h;split at h
  next n hn=>
   obtain⟨h1,h2⟩:=Lt x r _ h;have h3:=Yq hn;rw[zcr];by_cases ho:o.kind=0/\o.node=x.1
   ·obtain⟨h4,h5⟩:=Gz hn ho.1;have hx:x.1=(s.1,s.2,k):=by rw[<-ho.2,h4]
    have hr:r.flatMap (Au x)=[]:=zaN λhr=>by
     obtain⟨j,h6,h7⟩:=h2 hr;rw[hx] at h7;injection h7 with _ h7
     injection h7 with _ h7
     omega
    rw[hr,zbi];exact⟨Ls x o,λ_=>⟨k,zbA _,hx⟩⟩
   have:Au x o=[]:=by unfold Au;rw[zam ho]
   rw[this,zbg];exact⟨h1,λhr=>by obtain⟨j,h6,h7⟩:=h2 hr;exact⟨j,by omega,h7⟩⟩
  cases h
theorem Lu{l:List ak}(x:Pl):(∀g∈l,ct g=true)->(l.map (·.s)).Nodup->(Ea l x).length<=1/\(Ea l x≠[]-> ∃g∈l,g.s=FY x.1):=by
 induction l with
 |nil=>exact λ_ _=>⟨by simp[Ea],λh=>absurd rfl h⟩
 |cons g r ih=>
  intro hc hn;rw[zbm,za8] at hn;obtain⟨h1,h2⟩:=ih (λy hy=>hc y (.tail _ hy)) hn.2;obtain⟨h3,h4⟩:=Lt x g.ops 0 (Dz (hc g (.head _)));have e:Ea (g::r) x=g.ops.flatMap (Au x)++Ea r x:=rfl;rw[e];by_cases hg:g.ops.flatMap (Au x)=[]
  ·rw[hg,zbg];exact⟨h1,λh=>by obtain⟨y,hy,e⟩:=h2 h;exact⟨y,.tail _ hy,e⟩⟩
  obtain⟨j,_,hx⟩:=h4 hg;have hs:g.s=FY x.1:=by rw[hx]
  have hr:Ea r x=[]:=zaN λhr=>by obtain⟨y,hy,e⟩:=h2 hr;exact hn.1 (zaA.2 ⟨y,hy,by rw[e,hs]⟩)
  rw[hr,zbi];exact⟨h3,λ_=>⟨g,.head _,hs⟩⟩
theorem DG{l:List ak}(hc: ∀g∈l,ct g=true)(hn:(l.map (·.s)).Nodup): ∀p:List Pl,(Hp l p).length<=p.length
 | []=>by simp[Hp]
 |x::r=>by have h1:=DG hc hn r;have h2:=(Lu x hc hn).1;have e:Hp l (x::r)=Ea l x++Hp l r:=rfl;rw[e,zan,zap];omega
def jv(d:bf):D:= .agg [iE d.1.1,iE d.1.2.1,iE d.1.2.2,iE d.2.1,iE d.2.2]
abbrev iW(l:List bf):P:= .d (.sl 5 (l.map jv))
abbrev qiu(x:bf):Obj:= .box 106 [iD x.1.1,iD x.1.2.1,iD x.1.2.2,iD x.2.1,iD x.2.2]
abbrev qgo(z:Bool)(l:List bf):Obj:= .arr 106 z (l.map jv)
abbrev iw(z:Bool)(l:List av):Obj:= .arr 50 z (l.map bE)
abbrev pT(z:Bool)(l:List Pl):Obj:= .arr 104 z (l.map bK)
abbrev Yr(l:List bf)(x:bf)(i:Int):S:=⟨18,[(0,iW l),(3,.ref 0 0 0),(5,iD i)],[(0,⟨0,none,qiu x⟩)]⟩
def Z83(x:bf):List (Nat×En):=[(0,En.mk 0 none (Obj.box (106:TypeId) [P.d (D.int .i64 (Prod.fst (Prod.fst x))),P.d (D.int .i64 (Prod.fst (Prod.snd (Prod.fst x)))),P.d (D.int .i64 (Prod.snd (Prod.snd (Prod.fst x)))),P.d (D.int .i64 (Prod.fst (Prod.snd x))),P.d (D.int .i64 (Prod.snd (Prod.snd x)))]))]
def Av(l:List bf):P:=P.d (D.sl 5 (List.map jv l))
def sd(l:List bf):Nat×P:=(0,Av l)
def yT(l:List bf)(i:Int):D:=D.nth (List.map jv l) (Zg i)
noncomputable def NJ(l:List bf)(i:Int):Bool:=cD PR (106:TypeId) (yT l i)
def NK(i:Int)(l:List bf):Bool:=decide ((0:Int)<=i/\i<(↑(List.length (List.map jv l)):Int))
def Ys(i:Int)(l:List bf):Bool:=decide (i<(↑(List.length (List.map jv l)):Int))
theorem qa4(l:List bf)(x:bf)(i:Int)(ae:PX×S->Prop):(bif Ys i l then bif NK i l then bif NJ l i then bif D.aj (D.ar (yT l i) 0)==Prod.fst (Prod.fst x)&&(D.aj (D.ar (yT l i) 1)==Prod.fst (Prod.snd (Prod.fst x))&&true)&&(D.aj (D.ar (yT l i) 2)==Prod.snd (Prod.snd (Prod.fst x))&&true)&&(D.aj (D.ar (yT l i) 3)==Prod.fst (Prod.snd x)&&(D.aj (D.ar (yT l i) 4)==Prod.snd (Prod.snd x)&&true)&&true) then ae (PX.ret,S.mk 18 Li []) else bif Zj i then ae (PX.normal,S.mk 18 (sd l::dH::Zo i) (Z83 x)) else False else False else False else ae (PX.exit 0,S.mk 18 [] []))=(aG [] [] 92 2 (Yr l x i)) ae:=by kernel_rfl
def qdr:S->K (PX×S):=λs ae=> ∃l x,s=Yr l x 0/\l.length<=1000000/\(x∈l->ae (.ret,⟨18,[(4,.d (.bool true))],[]⟩))/\(x∉l->ae (.exit 0,⟨18,[],[]⟩))
def BH(au:List bf):Prop:=List.length au<=1000000
theorem qiv(l:List bf)(x:bf)(ae:P×List (Nat×En)->Prop):(∃(au:List bf) (aJ:bf),S.mk 18 (sd l::dH::ZN) (Z83 x)=S.mk 18 (sd au::dH::ZN) (Z83 aJ)/\BH au/\(aJ∈au->ZP ae)/\(¬aJ∈au->Z4 ae))=(aK [] [(2,ah (aO 92 2) qdr)] 92 [iW l,.d (jv x)] []) ae:=by kernel_rfl
def SP:br:=λps R ae=> ∃l x,ps=[iW l,.d (jv x)]/\R=[]/\l.length<=1000000/\ ∀b,b=decide (x∈l)->ae (.d (.bool b),[])
abbrev qiw(x:az):Obj:= .box 30 [iD x.1,iD x.2]
def Z87(x:az):List (Nat×En):=[Hk x]
def Z86(l:List az):Nat×P:=(0,uu l)
def Z85(l:List az)(i:Int)(x:az):Bool:=Hg l i==Prod.fst x&&(I5 l i==Prod.snd x&&true)
abbrev Yt(l:List az)(x:az)(i:Int):S:=⟨18,[(0,.sl 0 0 l.length),(3,.ref 1 0 0),(5,iD i)],[(0,⟨0,some 0,l0 false l⟩),(1,⟨0,none,qiw x⟩)]⟩
theorem SQ(l:List az)(x:az)(i:Int)(ae:PX×S->Prop):(bif decide (i<(↑(eu l):Int)) then bif decide ((0:Int)<=i/\i<(↑(eu l):Int)) then bif Le i l then bif vU l i then bif Z85 l i x then ae (PX.ret,S.mk 18 ((0,zA l)::Li) (D7 l)) else bif Zj i then ae (PX.normal,S.mk 18 ((0,zA l)::sa::Zo i) [Se l,(1,Ao x)]) else False else False else False else False else ae (PX.exit 0,S.mk 18 [(0,zA l)] (D7 l)))=(aG [] [] 42 2 (Yt l x i)) ae:=by kernel_rfl
def SR:S->K (PX×S):=λs ae=> ∃l x,s=Yt l x 0/\l.length<=1000000/\(x∈l->ae (.ret,⟨18,[(0,.sl 0 0 l.length),(4,.d (.bool true))],[(0,⟨0,some 0,l0 false l⟩)]⟩))/\(x∉l->ae (.exit 0,⟨18,[(0,.sl 0 0 l.length)],[(0,⟨0,some 0,l0 false l⟩)]⟩))
def Z88(l:List az)(x:az):S:=S.mk 18 ((0,zA l)::sa::ZN) [Se l,(1,Ao x)]
theorem qgp(l:List az)(x:az)(ae:P×List (Nat×En)->Prop):(∃(au:List az) (aJ:az),Z88 l x=Z88 au aJ/\rT au/\(aJ∈au->ae (ZO,D7 au))/\(¬aJ∈au->ae (P.d Z3,D7 au)))=(aK [] [(2,ah (aO 42 2) SR)] 42 [.sl 0 0 l.length,.d (bh x)] [(0,⟨0,some 0,l0 false l⟩)]) ae:=by kernel_rfl
def GA:br:=λps R ae=> ∃l x,ps=[.sl 0 0 l.length,.d (bh x)]/\R=[(0,⟨0,some 0,l0 false l⟩)]/\l.length<=1000000/\ ∀b,b=decide (x∈l)->ae (.d (.bool b),[(0,⟨0,some 0,l0 false l⟩)])
abbrev Yu(l:List av)(x:av)(i:Int):S:=⟨18,[(0,.sl 0 0 l.length),(3,.ref 1 0 0),(5,iD i)],[(0,⟨0,some 0,iw false l⟩),(1,⟨0,none,.box 50 [iD x.1,iD x.2.1,iD x.2.2]⟩)]⟩
def Z8c(l:List av):Nat×En:=(0,En.mk 0 (some 0) (Obj.arr (50:TypeId) false (gu l)))
def SS(l:List av):List (Nat×En):=[Z8c l]
def qH(l:List av):P:=P.sl 0 0 (ib l)
def SU(i:Int)(l:List av):Bool:=decide (Zg i<pL l)
def wi(l:List av):Int:=(↑(ib l):Int)
theorem SV(l:List av)(x:av)(i:Int)(ae:PX×S->Prop):(bif decide (i<wi l) then bif decide ((0:Int)<=i/\i<wi l) then bif SU i l then bif wJ l i then bif Z6I l i x then ae (PX.ret,S.mk 18 ((0,qH l)::Li) (SS l)) else bif Zj i then ae (PX.normal,S.mk 18 ((0,qH l)::sa::Zo i) (Z8c l::Sq x)) else False else False else False else False else ae (PX.exit 0,S.mk 18 [(0,qH l)] (SS l)))=(aG [] [] 91 2 (Yu l x i)) ae:=by kernel_rfl
def SX:S->K (PX×S):=λs ae=> ∃l x,s=Yu l x 0/\l.length<=1000000/\(x∈l->ae (.ret,⟨18,[(0,.sl 0 0 l.length),(4,.d (.bool true))],[(0,⟨0,some 0,iw false l⟩)]⟩))/\(x∉l->ae (.exit 0,⟨18,[(0,.sl 0 0 l.length)],[(0,⟨0,some 0,iw false l⟩)]⟩))
def Z8e(l:List av)(x:av):S:=S.mk 18 ((0,qH l)::sa::ZN) (Z8c l::Sq x)
theorem qgq(l:List av)(x:av)(ae:P×List (Nat×En)->Prop):(∃(au:List av) (aJ:av),Z8e l x=Z8e au aJ/\pS au/\(aJ∈au->ae (ZO,SS au))/\(¬aJ∈au->ae (P.d Z3,SS au)))=(aK [] [(2,ah (aO 91 2) SX)] 91 [.sl 0 0 l.length,.d (bE x)] [(0,⟨0,some 0,iw false l⟩)]) ae:=by kernel_rfl
def SY:br:=λps R ae=> ∃l x,ps=[.sl 0 0 l.length,.d (bE x)]/\R=[(0,⟨0,some 0,iw false l⟩)]/\l.length<=1000000/\ ∀b,b=decide (x∈l)->ae (.d (.bool b),[(0,⟨0,some 0,iw false l⟩)])
abbrev lvI(h g:List bf)(o:List av)(n:Nat)(i k:Int):S:=⟨72,[(0,iW h),(1,iW g),(5,.sl 0 0 n),(6,iD i),(8,iD k)],[(0,⟨0,none,iw false o⟩)]⟩
def Hq(o:List av):En:=En.mk 0 none (Obj.arr (50:TypeId) false (gu o))
def uA(o:List av):List (Nat×En):=[(0,Hq o)]
def JE(i:Int):List (Nat×P):=[ZK i]
def Vz(o:List av)(k:Int):List D:=List.set (gu o) (Zg k) (D.aW (D.agg (M9 o k)) (Vq o k))
def Z8j(o:List av)(k:Int):En:=En.mk 0 none (Obj.arr (50:TypeId) false (List.set (Vz o k) (Zc k) (D.aW (D.agg [D.int .i64 (D.aj (D.ar (D.nth (Vz o k) (Zc k)) 0)),D.int .i64 (D.aj (D.ar (D.nth (Vz o k) (Zc k)) 1)),D.int .i64 (D.aj (D.ar (D.nth (Vz o k) (Zc k)) 2))]) (M9 o k))))
def Z8i(k:Int):List (Nat×P):=[(8,Zs k)]
def wS(g:List bf):Nat×P:=(1,Av g)
def Z8f(k:Int)(o:List av):Bool:=decide (Zc k<pL o)
theorem qgr(h g:List bf)(o:List av)(n:Nat)(i k:Int)(ae:PX×S->Prop):(bif Zr k then bif mC k n then bif SU k o then bif wJ o k then bif Zb k then bif wQ k n then bif Z8f k o then bif Ov o k then∃(t:Int) (r:Int) (aH:Int) (t':Int) (r':Int) (i':Int),[P.d (D.agg (M9 o k)),P.d (D.agg (Vq o k))]=SE t r aH t' r' i'/\Zx/\bif SD t r aH t' r' i' then bif Zb k then bif Zb k then bif wQ k n then bif Z8f k o then bif Ov o k then bif mC k n then bif SU k o then bif wJ o k then bif mC k n then bif SU k o then bif wJ o k then bif wQ k n then bif decide (Zc k<List.length (Vz o k)) then bif cD PR (50:TypeId) (D.nth (Vz o k) (Zc k)) then bif Zb k then ae (PX.normal,S.mk 72 (sd h::wS g::ZC n::ZK i::Z8i k) [(0,Z8j o k)]) else False else False else False else False else False else False else False else False else False else False else False else False else False else False else False else ae (PX.exit 2,S.mk 72 (sd h::wS g::ZC n::JE i) (uA o)) else False else False else False else False else False else False else False else ae (PX.exit 2,S.mk 72 (sd h::wS g::ZC n::JE i) (uA o)))=(aG [(88,iS)] [] 57 9 (lvI h g o n i k)) ae:=by kernel_rfl
abbrev lvH(h g:List bf)(o:List av)(i:Int):S:=⟨72,[(0,iW h),(1,iW g),(5,.sl 0 0 o.length),(6,iD i)],[(0,⟨0,none,iw false o⟩)]⟩
def qds:S->K (PX×S):=λst ae=> ∃h g o x n i k,st=lvI h g (o++[x]) n i k/\(k=(o.length:Int)/\n=o.length+1/\o.length<=1000000)/\ ∀o',o'=cL mj o x->ae (.exit 2,lvH h g o' i)
def Z8u(aP:List av)(x:av):En:=En.mk 0 none (Obj.arr (50:TypeId) false (List.map bE (aP++[x])))
def vB(k:Int):Nat×P:=(8,P.d (Zt k))
def NL(k:Int):List (Nat×P):=[vB k]
def Z8q(h:List bf)(i:Int):D:=D.agg [D.int .i64 (D.aj (D.ar (yT h i) 0)),D.int .i64 (D.aj (D.ar (yT h i) 1)),D.int .i64 (D.aj (D.ar (yT h i) 2))]
def Z8r(o:List av)(h:List bf)(i:Int):Nat:=ib o+List.length [Z8q h i]
def Z8p(i:Int)(ae:PX×S->Prop)(h:List bf)(g:List bf)(o:List av):Prop:=bif Zj i then ae (PX.normal,S.mk 72 (sd h::wS g::(5,qH o)::ZA i) (uA o)) else False
def Z8n(h:List bf)(i:Int):List D:=[D.int .i64 (D.aj (D.ar (yT h i) 3)),D.int .i64 (D.aj (D.ar (yT h i) 4))]
def Z8o(g:List bf)(h:List bf)(i:Int)(l:List bf)(x:bf):Prop:=[Av g,P.d (D.agg (D.int .i64 (D.aj (D.ar (yT h i) 0))::D.int .i64 (D.aj (D.ar (yT h i) 1))::D.int .i64 (D.aj (D.ar (yT h i) 2))::Z8n h i))]=[Av l,P.d (D.agg [D.int .i64 (Prod.fst (Prod.fst x)),D.int .i64 (Prod.fst (Prod.snd (Prod.fst x))),D.int .i64 (Prod.snd (Prod.snd (Prod.fst x))),D.int .i64 (Prod.fst (Prod.snd x)),D.int .i64 (Prod.snd (Prod.snd x))])]
theorem qa5(h g:List bf)(o:List av)(i:Int)(ae:PX×S->Prop):(bif Ys i h then bif NK i h then bif NJ h i then bif NK i h then bif NJ h i then∃(l:List bf) (x:bf),Z8o g h i l x/\Zx/\BH l/\ ∀(b:Bool),b=decide (x∈l)->bif b then Z8p i ae h g o else∃(l:List av) (x:av),[qH o,P.d (Z8q h i)]=qH l::iU x/\SS o=SS l/\pS l/\ ∀(b:Bool),b=decide (x∈l)->bif b then bif Zj i then ae (PX.normal,S.mk 72 (sd h::wS g::(5,qH o)::ZA i) (uA l)) else False else bif Nat.ble (ib o) (pL l)&&aM (Z8r o h i) 24 then bif decide (Z9<=(↑(Z8r o h i):Int)-(1:Int)/\(↑(Z8r o h i):Int)-(1:Int)<=Za) then∃(qI:List bf) (aQ:List bf) (aP:List av) (x:av) (n:Nat) (aH:Int) (k:Int),S.mk 72 [sd h,wS g,(5,P.sl 0 0 (Z8r o h i)),ZK i,(8,P.d (D.int .i64 ((↑(Z8r o h i):Int)-(1:Int))))] [(0,En.mk 0 none (Obj.arr (50:TypeId) false (List.take (ib o) (gu l)++[Z8q h i])))]=S.mk 72 (sd qI::wS aQ::ZC n::ZK aH::NL k) [(0,Z8u aP x)]/\(k=wi aP/\n=ib aP+1/\pS aP)/\ ∀(o':List av),o'=cL mj aP x->Z8p aH ae qI aQ o' else False else False else False else False else False else False else ae (PX.exit 0,S.mk 72 [(5,qH o)] (uA o)))=(aG [(92,SP),(91,SY)] [(9,ah (aO 57 9) qds)] 57 3 (lvH h g o i)) ae:=by kernel_rfl
def gLv:S->K (PX×S):=λs ae=> ∃h g,s=lvH h g [] 0/\(h.length<=1000000/\g.length<=1000000)/\ ∀o,o=NI h g->ae (.exit 0,⟨72,[(5,.sl 0 0 o.length)],[(0,⟨0,none,iw false o⟩)]⟩)
def Lv:En:=En.mk 0 none (Obj.arr (50:TypeId) false [])
def SZ:List (Nat×P):=(5,ZQ)::Jy
def Z8x(h:List bf)(g:List bf):S:=S.mk 72 (sd h::wS g::SZ) [(0,Lv)]
theorem qix(h g:List bf)(ae:P×List (Nat×En)->Prop):(∃(qI:List bf) (aQ:List bf),Z8x h g=Z8x qI aQ/\(BH qI/\BH aQ)/\ ∀(o:List av),o=NI qI aQ->ae (qH o,uA o))=(aK [] [(3,ah (aO 57 3) gLv)] 57 [iW h,iW g] []) ae:=by kernel_rfl
def S0:br:=λps R ae=> ∃h g,ps=[iW h,iW g]/\R=[]/\(h.length<=1000000/\g.length<=1000000)/\ ∀o,o=NI h g->ae (.sl 0 0 o.length,[(0,⟨0,none,iw false o⟩)])
theorem JF(d:bf):cD PR 106 (jv d)=true:=by kernel_rfl
theorem qiy(y x:bf):(y.1.1==x.1.1&&(y.1.2.1==x.1.2.1&&true)&&(y.1.2.2==x.1.2.2&&true)&&(y.2.1==x.2.1&&(y.2.2==x.2.2&&true)&&true))=(y==x):=by rw[zaF];obtain⟨⟨a,b,c⟩,d,e⟩:=y;obtain⟨⟨a',b',c'⟩,d',e'⟩:=x;simp[and_assoc]
theorem yU{α:Type}[BEq α][LawfulBEq α] {l:List α}{x:α}{i:Nat}(hi:i<l.length)(ht:(l[i]==x)=true):x∈l:=by rw[<-eq_of_beq ht];exact zas hi
theorem yV{α:Type}[BEq α][LawfulBEq α] {l:List α}{x:α}(h: ∀j (hj:j<l.length),(l[j]==x)=false):x∉l:=λhx=>by obtain⟨j,hj,rfl⟩:=zaW hx;have:=h j hj;simp at this
section
variable{X:XF}
theorem Yv:LD X 92 2 (ah (aO 92 2) qdr):=LD.find (H:=[]) (hk:=[]) (by kernel_rfl) (by kernel_rfl) .nil .nil
 (A:=List bf×bf) (λa k=>Yr a.1 a.2 k) (·.1) (λa _ x=>x==a.2) (λa=>a.1.length<=1000000) (λ_ _=>(.ret,⟨18,[(4,.d (.bool true))],[]⟩)) (λ_=>(.exit 0,⟨18,[],[]⟩)) (λ_ _ h=>by cases h) (λ_ h=>by cases h)
 (by
  rintro⟨l,x⟩ k ae dQ hm h0 hk ht hf;dsimp only at*
  (rw[<-qa4];delta Z83 Zn Zo cb dH Av sd Za Z9 Zj ZO Li Zg yT NJ NK Ys)
  have e1:D.nth (l.map jv) k.toNat=jv l[k.toNat]:=aA _ _ _ dQ;have bj:k.toNat<(l.map jv).length:=by rw[zaa];exact dQ
  rw[e1];have v:=qiy l[k.toNat] x;generalize l[k.toNat]=y at*
  rw[<-v] at ht hf;simp only[Yr,zaa] at hf bj⊢;exact bM hk (ao ⟨h0,hk⟩ (aq (JF _) (ay (λh=>ht h) λh=>ao (by omega) (hf h)))))
 (by
  rintro⟨l,x⟩ k ae hm hk hp;dsimp only at*
  (rw[<-qa4];delta Z83 Zn Zo cb dH Av sd Za Z9 Zj ZO Li Zg yT NJ NK Ys)
  exact mq (by first |omega | (simp only[zaa];omega)) hp)
 (by rintro s ae ⟨l,x,rfl,hm,h1,h2⟩;exact⟨(l,x),rfl,hm,λ_ hi _ ht _=>h1 (yU hi ht),λh=>h2 (yV h)⟩)
theorem qa6:FD X 92 SP:=FD.mk (H:=[]) (hk:=[(2,ah (aO 92 2) qdr)]) (by kernel_rfl) .nil (.cons Yv .nil) (by
 intro ps R ae hh;obtain⟨l,x,rfl,rfl,hm,hp⟩:=hh
 (rw[<-qiv];delta Z3 Z4 ZO ZP BH Z83 Z7 ZN cb dH Av sd)
 exact⟨l,x,rfl,hm,λh=>hp _ (by simp[h]),λh=>hp _ (by simp[h])⟩)
theorem S1:LD X 42 2 (ah (aO 42 2) SR):=LD.find (H:=[]) (hk:=[]) (by kernel_rfl) (by kernel_rfl) .nil .nil
 (A:=List az×az) (λa k=>Yt a.1 a.2 k) (·.1) (λa _ x=>x==a.2) (λa=>a.1.length<=1000000) (λa _=>(.ret,⟨18,[(0,.sl 0 0 a.1.length),(4,.d (.bool true))],[(0,⟨0,some 0,l0 false a.1⟩)]⟩)) (λa=>(.exit 0,⟨18,[(0,.sl 0 0 a.1.length)],[(0,⟨0,some 0,l0 false a.1⟩)]⟩)) (λ_ _ h=>by cases h) (λ_ h=>by cases h)
 (by
  rintro⟨l,x⟩ k ae dQ hm h0 hk ht hf;dsimp only at*
  (rw[<-SQ];delta ll ln Ao eL Se Zn Zo jE sa Za Z9 Zj D7 ZO Li eu zA Zg I5 Hg Z85 vU Le)
  have e1:D.nth (l.map bh) k.toNat=bh l[k.toNat]:=aA _ _ _ dQ;have bj:k.toNat<(l.map bh).length:=by rw[zaa];exact dQ
  rw[e1];have v:=Nb l[k.toNat] x;generalize l[k.toNat]=y at*
  rw[<-v] at ht hf;simp only[Yt,zaa] at hf bj⊢;exact bM hk (ao ⟨h0,hk⟩ (ao bj (aq (jS _) (ay (λh=>ht h) λh=>ao (by omega) (hf h))))))
 (by
  rintro⟨l,x⟩ k ae hm hk hp;dsimp only at*
  (rw[<-SQ];delta ll ln Ao eL Se Zn Zo jE sa Za Z9 Zj D7 ZO Li eu zA Zg I5 Hg Z85 vU Le)
  exact mq (by first |omega | (simp only[zaa];omega)) hp)
 (by rintro s ae ⟨l,x,rfl,hm,h1,h2⟩;exact⟨(l,x),rfl,hm,λ_ hi _ ht _=>h1 (yU hi ht),λh=>h2 (yV h)⟩)
theorem S2:FD X 42 GA:=FD.mk (H:=[]) (hk:=[(2,ah (aO 42 2) SR)]) (by kernel_rfl) .nil (.cons S1 .nil) (by
 intro ps R ae hh;obtain⟨l,x,rfl,rfl,hm,hp⟩:=hh
 (rw[<-qgp];delta Z3 eL Se D7 ZO eu rT ll ln Ao Z7 ZN jE sa zA Z88)
 exact⟨l,x,rfl,hm,λh=>hp _ (by simp[h]),λh=>hp _ (by simp[h])⟩)
theorem S3:LD X 91 2 (ah (aO 91 2) SX):=LD.find (H:=[]) (hk:=[]) (by kernel_rfl) (by kernel_rfl) .nil .nil
 (A:=List av×av) (λa k=>Yu a.1 a.2 k) (·.1) (λa _ x=>x==a.2) (λa=>a.1.length<=1000000) (λa _=>(.ret,⟨18,[(0,.sl 0 0 a.1.length),(4,.d (.bool true))],[(0,⟨0,some 0,iw false a.1⟩)]⟩)) (λa=>(.exit 0,⟨18,[(0,.sl 0 0 a.1.length)],[(0,⟨0,some 0,iw false a.1⟩)]⟩)) (λ_ _ h=>by cases h) (λ_ h=>by cases h)
 (by
  rintro⟨l,x⟩ k ae dQ hm h0 hk ht hf;dsimp only at*
  (rw[<-SV];delta gR gP ia gC gD oS Sq gu Z8c Zn Zo jE sa Za Z9 Zj SS ZO Li ib qH Zg I6 I7 I8 Z6I wJ pL SU wi)
  have e1:D.nth (l.map bE) k.toNat=bE l[k.toNat]:=aA _ _ _ dQ;have bj:k.toNat<(l.map bE).length:=by rw[zaa];exact dQ
  rw[e1];have v:=D1 l[k.toNat] x;generalize l[k.toNat]=y at*
  rw[<-v] at ht hf;simp only[Yu,zaa] at hf bj⊢;exact bM hk (ao ⟨h0,hk⟩ (ao bj (aq (lJ _) (ay (λh=>ht h) λh=>ao (by omega) (hf h))))))
 (by
  rintro⟨l,x⟩ k ae hm hk hp;dsimp only at*
  (rw[<-SV];delta gR gP ia gC gD oS Sq gu Z8c Zn Zo jE sa Za Z9 Zj SS ZO Li ib qH Zg I6 I7 I8 Z6I wJ pL SU wi)
  exact mq (by first |omega | (simp only[zaa];omega)) hp)
 (by rintro s ae ⟨l,x,rfl,hm,h1,h2⟩;exact⟨(l,x),rfl,hm,λ_ hi _ ht _=>h1 (yU hi ht),λh=>h2 (yV h)⟩)
theorem qdt:FD X 91 SY:=FD.mk (H:=[]) (hk:=[(2,ah (aO 91 2) SX)]) (by kernel_rfl) .nil (.cons S3 .nil) (by
 intro ps R ae hh;obtain⟨l,x,rfl,rfl,hm,hp⟩:=hh
 (rw[<-qgq];delta Z3 gu Z8c SS ZO ib pS gR gP ia gC gD oS Sq Z7 ZN jE sa qH Z8e)
 exact⟨l,x,rfl,hm,λh=>hp _ (by simp[h]),λh=>hp _ (by simp[h])⟩)
theorem Yw:LD X 57 9 (ah (aO 57 9) qds):=LD.ins (H:=[(88,iS)]) (hk:=[]) (by kernel_rfl) (by kernel_rfl) (.cons mQ .nil) .nil
 (A:=List bf×List bf×Nat×Int) (α:=av) (λa o k=>lvI a.1 a.2.1 o a.2.2.1 a.2.2.2 k) mj (λa=>a.2.2.1) (λ_=>True) (λa o=>(.exit 2,⟨72,[(0,iW a.1),(1,iW a.2.1),(5,.sl 0 0 a.2.2.1),(6,iD a.2.2.2)],[(0,⟨0,none,iw false o⟩)]⟩)) (λ_ _ h=>by cases h)
 (by
  rintro⟨h,g,n,i⟩ o k ae _ h0 Hr lY hk hz b7 ec;dsimp only at*
  subst Hr
  (rw[<-qgr];delta gu Hq uA Zt ZK JE Zg I6 I7 I8 M9 Zc Vq Vz Z8j Zs Z8i ZB ZC Av wS sd SD Zx ZE Hb SE Ov pL Z8f wQ Za Z9 Zb wJ SU mC Zr)
  refine cE (λhp=> ?_) λhp=>hz (by omega);have fV:k.toNat-1<o.length:=by omega
  have ek:(k-1).toNat=k.toNat-1:=by omega
  have e1:D.nth (o.map bE) k.toNat=bE o[k.toNat]:=aA _ _ _ hk;have e2:D.nth (o.map bE) (k.toNat-1)=bE o[k.toNat-1]:=aA _ _ _ fV;have b7:=b7 hp;have ec:=ec hp;have yW:=kB bE o k.toNat o[k.toNat] o[k.toNat-1];have e3: ∀z,D.nth ((o.map bE).set k.toNat z) (k.toNat-1)=bE o[k.toNat-1]:=λz=>by unfold D.nth;rw[zac,zaX (by omega)];simp[fV]
  rw[ek,e1,e2];simp only[e3];generalize o[k.toNat]=x at*
  generalize o[k.toNat-1]=y at*
  simp only[zaa,zbf] at ec⊢;have yX:0<=k/\k<(o.length:Int):=⟨h0,by omega⟩
  have yY:0<=k-1/\k-1<(o.length:Int):=⟨by omega,by omega⟩
  have hf:(-9223372036854775808:Int)<=k-1/\k-1<=9223372036854775807:=by omega
  refine ao yX (ao hk (aq (lJ _) (ao hf (ao yY (ao fV (aq (lJ _) ⟨(x).1,(x).2.1,(x).2.2,(y).1,(y).2.1,(y).2.2,rfl,rfl,cE (λh=> ?_) λh=>b7 (by rw[<-zaP];exact λh2=>h ((h9 (x) (y)).2 h2))⟩))))));have hy:=ec ((h9 (x) (y)).1 h);simp only[lvI,iw] at hy;rw[<-yW] at hy;refine ao hf (ao hf (ao yY (ao fV (aq (lJ _) (ao yX (ao hk (aq (lJ _) (ao yX (ao hk (aq (lJ _) (ao yY (ao fV (aq (lJ _) (ao hf ?_))))))))))))));exact hy)
 (by rintro s ae ⟨h,g,o,x,n,i,k,rfl,⟨hk,hn,ho⟩,hp⟩;refine⟨(h,g,n,i),o,x,k,rfl,hk,trivial,⟨hn.symm,ho⟩,?_⟩;have:=hp _ rfl;rw[lvH,lv,<-hn] at this;exact this)
theorem Yx{h g:List bf}{i:Nat}(hi:i<h.length):NI (h.take (i+1)) g=SO g (NI (h.take i) g) h[i]:=by unfold NI;rw[zag hi,za2];rfl
theorem qdu:LD X 57 3 (ah (aO 57 3) gLv):=LD.idx (H:=[(92,SP),(91,SY)]) (hk:=[(9,ah (aO 57 9) qds)]) (by kernel_rfl) (by kernel_rfl) (.cons qa6 (.cons qdt .nil)) (.cons Yw .nil)
 (A:=List bf×List bf) (B:=List av) (λa o i=>lvH a.1 a.2 o i) (λa=>a.1.length) (λa i o=>(a.1.length<=1000000/\a.2.length<=1000000)/\o=NI (a.1.take i) a.2)
 (λa x=>x=(.exit 0,⟨72,[(5,.sl 0 0 (NI a.1 a.2).length)],[(0,⟨0,none,iw false (NI a.1 a.2)⟩)]⟩))
 (by
  rintro⟨h,g⟩ o i ae h0 bQ bj ⟨hm,ho⟩ hn bw;dsimp only at*
  (rw[<-qa5];delta ib wi Z8u Zt vB NL ZB ZC gu ZK Za Z9 Zg yT Z8q Z8r pL Hq uA Zn ZA Av wS sd Zj pS Z8c SS gR gP ia gC gD um iU qH Z8p BH Zx Z8n Z8o NJ NK Ys)
  have lY:o.length<=i.toNat:=by have:=Lr (h.take i.toNat) g;rw[zay] at this;rw[ho];omega
  have e1:D.nth (h.map jv) i.toNat=jv h[i.toNat]:=aA _ _ _ bj;have kC:=Yx (g:=g) bj;rw[<-ho] at kC;have fS:=λo' (gb:o'=SO g o h[i.toNat])=>hn o' ⟨hm,by rw[kC];exact gb⟩;generalize h[i.toNat]=d at*
  rw[e1];simp only[zaa];have t1:List.take o.length (o.map bE)++[bE d.1]=(o++[d.1]).map bE:=cv bE o d.1;refine bM bQ (ao ⟨h0,bQ⟩ (aq (JF _) (ao ⟨h0,bQ⟩ (aq (JF _) ⟨g,d,rfl,rfl,hm.2,λb hb=> ?_⟩))));refine ay (λD2=>ao (by omega) (fS o ?_)) λBI=>⟨o,d.1,rfl,rfl,by omega,λb2 cr=>ay (λS4=>ao (by omega) (fS o ?_)) λS5=> ?_⟩
  ·unfold SO;rw[hb,zah] at D2;rw[zao (.inl D2)]
  ·unfold SO;rw[cr,zah] at S4;rw[zao (.inr S4)]
  rw[hb,zaO] at BI;rw[cr,zaO] at S5;have S6:SO g o d=cL mj o d.1:=by unfold SO;rw[zam (λhh=>hh.elim BI S5)]
  simp only[zap,zat,zaG];refine aq ?_ (ao (by omega) ⟨h,g,o,d.1,o.length+1,i,((o.length+1:Nat):Int)-1,congrArg (λz=>(⟨72,[(0,iW h),(1,iW g),(5,.sl 0 0 (o.length+1)),(6,iD i),(8,iD (((o.length+1:Nat):Int)-1))],[(0,⟨0,none,.arr 50 false z⟩)]⟩:S)) t1,⟨by omega,rfl,by omega⟩,λo' gb=>ao (by omega) (fS o' (by rw[S6];exact gb))⟩);rw[zab];exact⟨by simp,cq (by omega) (by omega)⟩
 )
 (by
  rintro⟨h,g⟩ o i ae hi ⟨hm,ho⟩ bw;dsimp only at*
  (rw[<-qa5];delta ib wi Z8u Zt vB NL ZB ZC gu ZK Za Z9 Zg yT Z8q Z8r pL Hq uA Zn ZA Av wS sd Zj pS Z8c SS gR gP ia gC gD um iU qH Z8p BH Zx Z8n Z8o NJ NK Ys)
  refine mq (by simp only[zaa];omega) (bw _ (λh=>by cases h) ?_);rw[ho,zak])
 (by rintro s ae ⟨h,g,rfl,hs,hp⟩;refine⟨(h,g),[],rfl,⟨hs,rfl⟩,?_⟩;rintro x rfl;exact hp _ rfl)
theorem qdv:FD X 57 S0:=FD.mk (H:=[]) (hk:=[(3,ah (aO 57 3) gLv)]) (by kernel_rfl) .nil (.cons qdu .nil) (by
 intro ps R ae hh;obtain⟨h,g,rfl,rfl,hs,hp⟩:=hh
 (rw[<-qix];delta gu Hq uA ib qH BH Lv Z7 Jy ZQ SZ Av wS sd Z8x)
 exact⟨h,g,rfl,hs,λo ho=>hp o ho⟩)
end
abbrev Ix:Hd:=((0,0),(0,0))
def S7:S->K (PX×S):=λst ae=> ∃l out i b,st=qcV l out b i 0/\(b=false/\0<=i/\i<(l.length:Int)/\l.length<=1000000/\out.length<=1000000)/\ ∀h,h=out.any (λy=>y.1==(l.getD i.toNat Ix).1)->ae (.exit 2,⟨80,[(0,yO l),(3,.sl 0 0 out.length),(4,iD i),(5,.d (.bool h))],[(0,⟨0,none,v7 false out⟩)]⟩)
def NM(a b:Hd):Bool:=lW b.1 a.1
abbrev S8(l out:List Hd)(n:Nat)(i k:Int):S:=⟨80,[(0,yO l),(3,.sl 0 0 n),(4,iD i),(7,iD k)],[(0,⟨0,none,v7 false out⟩)]⟩
def S9:S->K (PX×S):=λst ae=> ∃l o x n i k,st=S8 l (o++[x]) n i k/\(k=(o.length:Int)/\n=o.length+1/\o.length<=1000000)/\ ∀o',o'=cL NM o x->ae (.exit 4,R7 l o' i)
def Z8A(gM:List Hd)(au:List Hd)(aH:Int):En:=En.mk 0 none (Obj.arr (139:TypeId) false (Jq gM++[D.agg (XY au aH)]))
def Ta(gM:List Hd)(au:List Hd)(aH:Int):Nat:=fM gM+List.length [D.agg (XY au aH)]
def Z8y(aH:Int)(ae:PX×S->Prop)(au:List Hd)(gM:List Hd):Prop:=bif Zj aH then ae (PX.normal,S.mk 80 (D6 au::rS gM::vr aH) (wN gM)) else False
theorem Tb(l out:List Hd)(i:Int)(ae:PX×S->Prop):(bif decide (i<(↑(wb l):Int)) then∃(au:List Hd) (gM:List Hd) (aH:Int) (b:Bool),S.mk 80 (D6 l::rS out::nq i::(5,P.d Z3)::Jy) (wN out)=S.mk 80 (D6 au::rS gM::nq aH::(5,gh b)::Jy) (wN gM)/\(b=false/\(0:Int)<=aH/\aH<ux au/\qm au/\qm gM)/\ ∀(h:Bool),(h=List.any gM λ(y:Hd)=>Prod.fst y==Prod.fst (List.getD au (Zg aH) Ix))->bif h then Z8y aH ae au gM else bif Z64 aH au then bif BA au aH then bif Nat.ble (fM gM) (wb gM)&&aM (Ta gM au aH) 32 then bif decide (Z9<=(↑(Ta gM au aH):Int)-(1:Int)/\(↑(Ta gM au aH):Int)-(1:Int)<=Za) then∃(l:List Hd) (o:List Hd) (x:Hd) (n:Nat) (i:Int) (k:Int),S.mk 80 [D6 au,(3,P.sl 0 0 (Ta gM au aH)),nq aH,(7,P.d (D.int .i64 ((↑(Ta gM au aH):Int)-(1:Int))))] [(0,Z8A gM au aH)]=S.mk 80 [D6 l,(3,ZB n),nq i,rX k] [(0,En.mk 0 none (Obj.arr (139:TypeId) false (List.map bN (o++[x]))))]/\(k=ux o/\n=fM o+1/\qm o)/\ ∀(o':List Hd),o'=cL NM o x->Z8y i ae l o' else False else False else False else False else ae (PX.exit 0,S.mk 80 [rS out] (wN out)))=(aG [] [(7,ah (aO 84 7) S7),(13,ah (aO 84 13) S9)] 84 3 (R7 l out i)) ae:=by kernel_rfl
def Tc:S->K (PX×S):=λst ae=> ∃l,st=R7 l [] 0/\l.length<=1000000/\ ∀o,o=cj NM (qB l)->ae (.exit 0,⟨80,[(3,.sl 0 0 o.length)],[(0,⟨0,none,v7 false o⟩)]⟩)
def Z8B:En:=En.mk 0 none (Obj.arr (139:TypeId) false [])
def Z8C(l:List Hd):S:=S.mk 80 (D6 l::RU) [(0,Z8B)]
theorem qgs(l:List Hd)(ae:P×List (Nat×En)->Prop):(∃(au:List Hd),Z8C l=Z8C au/\qm au/\ ∀(o:List Hd),o=cj NM (qB au)->ae (qD o,wN o))=(aK [] [(3,ah (aO 84 3) Tc)] 84 [yO l] []) ae:=by kernel_rfl
def qdw:br:=λps R ae=> ∃l,ps=[yO l]/\R=[]/\l.length<=1000000/\ ∀o,o=cj NM (qB l)->ae (.sl 0 0 o.length,[(0,⟨0,none,v7 false o⟩)])
def qdx:S->K (PX×S):=λst ae=> ∃l,st=X0 l [] 0/\l.length<=1000000/\ ∀o,o=l.map km->ae (.exit 0,⟨26,[(3,.sl 0 0 o.length)],[(0,⟨0,none,v7 false o⟩)]⟩)
def Z8D(l:List ak):S:=S.mk 26 (gj l::RU) [(0,Z8B)]
theorem qgt(l:List ak)(ae:P×List (Nat×En)->Prop):(∃(au:List ak),Z8D l=Z8D au/\mB au/\ ∀(o:List Hd),o=List.map km au->ae (qD o,wN o))=(aK [] [(3,ah (aO 44 3) qdx)] 44 [bT l] []) ae:=by kernel_rfl
def qdy:br:=λps R ae=> ∃l,ps=[bT l]/\R=[]/\l.length<=1000000/\ ∀o,o=l.map km->ae (.sl 0 0 o.length,[(0,⟨0,none,v7 false o⟩)])
abbrev qdz(m on:List Hd)(i:Int)(un:Bool)(k:Int):S:=⟨63,[(3,.sl 0 0 m.length),(4,.sl 1 0 on.length),(5,iD i),(6,.d (.bool un)),(7,iD k)],[(0,⟨0,none,v7 false m⟩),(1,⟨0,none,v7 false on⟩)]⟩
def Te:S->K (PX×S):=λst ae=> ∃m on i b,st=qdz m on i b 0/\(b=false/\0<=i/\i<(m.length:Int)/\m.length<=1000000/\on.length<=1000000)/\ ∀h,h=on.any (λy=>y.2==(m.getD i.toNat Ix).1)->ae (.exit 2,⟨63,[(3,.sl 0 0 m.length),(4,.sl 1 0 on.length),(5,iD i),(6,.d (.bool h))],[(0,⟨0,none,v7 false m⟩),(1,⟨0,none,v7 false on⟩)]⟩)
def VA(m:List Hd)(on:List Hd):List (Nat×En):=[zz m,(1,Gm on)]
def Eb(i:Int):Nat×P:=(5,P.d (Zt i))
def VB(on:List Hd):Nat×P:=(4,P.sl 1 0 (fM on))
theorem Tf(m on:List Hd)(i:Int)(un:Bool)(k:Int)(ae:PX×S->Prop):(bif OD k on then bif un then bif Zj k then ae (PX.normal,S.mk 63 (rS m::VB on::Eb i::(6,ZO)::ZL k) (VA m on)) else False else bif Dy k on then bif Dx k on then bif BA on k then bif Dy i m then bif Dx i m then bif BA m i then bif Zj k then ae (PX.normal,S.mk 63 (rS m::VB on::Eb i::(6,P.d (D.bool (D.aj (D.ar (wM on k) 2)==Dw m i&&(D.aj (D.ar (wM on k) 3)==Gl m i&&true))))::ZL k) (VA m on)) else False else False else False else False else False else False else False else ae (PX.exit 2,S.mk 63 [rS m,VB on,Eb i,(6,gh un)] (VA m on)))=(aG [] [] 53 8 (qdz m on i un k)) ae:=by kernel_rfl
abbrev Yy(m on:List Hd)(i:Int):S:=⟨63,[(3,.sl 0 0 m.length),(4,.sl 1 0 on.length),(5,iD i)],[(0,⟨0,none,v7 false m⟩),(1,⟨0,none,v7 false on⟩)]⟩
abbrev Yz(on:List Hd)(out:List az)(i:Int):S:=⟨63,[(4,.sl 0 0 on.length),(8,.sl 1 0 out.length),(9,iD i)],[(0,⟨0,none,v7 false on⟩),(1,⟨0,none,l0 false out⟩)]⟩
theorem qdA(on:List Hd)(out:List az)(i:Int)(ae:PX×S->Prop):(bif Z2 i then bif Dy i on then bif Dx i on then bif BA on i then bif Nat.ble (eu out) (List.length (eL out))&&aM (eu out+List.length [XX on i]) 16 then bif Zb i then ae (PX.normal,S.mk 63 ((4,qD on)::(8,P.sl 1 0 (eu out+List.length [XX on i]))::Z7Q i) [zz on,(1,En.mk 0 none (Obj.arr (30:TypeId) false (List.take (eu out) (eL out)++[XX on i])))]) else False else False else False else False else False else ae (PX.exit 4,S.mk 63 [(8,zA out)] (Nr out)))=(aG [] [] 53 15 (Yz on out i)) ae:=by kernel_rfl
theorem Tj(m on:List Hd)(i:Int)(ae:PX×S->Prop):(bif OD i m then∃(bZ:List Hd) (aN:List Hd) (aH:Int) (b:Bool),S.mk 63 (rS m::VB on::Eb i::(6,P.d Z3)::rI) (VA m on)=S.mk 63 (rS bZ::VB aN::Eb aH::(6,gh b)::rI) (VA bZ aN)/\(b=false/\(0:Int)<=aH/\aH<ux bZ/\qm bZ/\qm aN)/\ ∀(h:Bool),(h=List.any aN λ(y:Hd)=>Prod.snd y==Prod.fst (List.getD bZ (Zg aH) Ix))->bif lr h then bif Dy aH bZ then bif Dx aH bZ then bif BA bZ aH then bif Nat.ble (fM aN) (wb aN)&&aM (Ta aN bZ aH) 32 then bif Zj aH then ae (PX.normal,S.mk 63 (rS bZ::(4,P.sl 1 0 (Ta aN bZ aH))::Zo aH) [zz bZ,(1,Z8A aN bZ aH)]) else False else False else False else False else False else bif Zj aH then ae (PX.normal,S.mk 63 (rS bZ::VB aN::Zo aH) (VA bZ aN)) else False else ae (PX.exit 0,S.mk 63 [(4,qD on)] (wN on)))=(aG [] [(8,ah (aO 53 8) Te)] 53 4 (Yy m on i)) ae:=by kernel_rfl
def Tk:S->K (PX×S):=λst ae=> ∃m,st=Yy m [] 0/\m.length<=1000000/\ ∀o,o=Hj m []->ae (.exit 0,⟨63,[(4,.sl 0 0 o.length)],[(0,⟨0,none,v7 false o⟩)]⟩)
def Tm:S->K (PX×S):=λst ae=> ∃on i,st=Yz on [] i/\(i=(on.length:Int)-1/\on.length<=1000000)/\ ∀o,o=(on.map (·.1)).reverse->ae (.exit 4,⟨63,[(8,.sl 0 0 o.length)],[(0,⟨0,none,l0 false o⟩)]⟩)
def Z8I(o:List Hd):S:=S.mk 63 (rS o::(4,zD)::ZN) [zz o,(1,Z8B)]
def Z8H(l:List Hd):List P:=[P.d (D.sl 4 (List.map bN l))]
theorem qgu(l:List Hd)(ae:P×List (Nat×En)->Prop):(∃(au:List Hd),Z8H l=Z8H au/\Zx/\qm au/\ ∀(o:List Hd),o=cj NM (qB au)-> ∃(m:List Hd),Z8I o=Z8I m/\qm m/\ ∀(o:List Hd),o=Hj m []->bif decide (Z9<=ux o-(1:Int)/\ux o-(1:Int)<=Za) then∃(on:List Hd) (i:Int),S.mk 63 [(4,qD o),(8,zD),(9,P.d (D.int .i64 (ux o-(1:Int))))] [zz o,(1,wc)]=S.mk 63 [(4,qD on),(8,zD),Z7U i] [zz on,(1,wc)]/\(i=ux on-(1:Int)/\qm on)/\ ∀(o:List az),o=List.reverse (List.map (λ(x:Hd)=>Prod.fst x) on)->ae (zA o,Nr o) else False)=(aK [(84,qdw)] [(4,ah (aO 53 4) Tk),(15,ah (aO 53 15) Tm)] 53 [yO l] []) ae:=by kernel_rfl
def qdB:br:=λps R ae=> ∃l,ps=[yO l]/\R=[]/\l.length<=1000000/\ ∀o,o=RD l->ae (.sl 0 0 o.length,[(0,⟨0,none,l0 false o⟩)])
theorem GB{α:Type}(t:α->Bool)(l:List α){i:Nat}(h:i<l.length):(l.take (i+1)).any t=((l.take i).any t ||t l[i]):=by rw[zag h,zcg];simp
section
variable{X:XF}
theorem Tn:LD X 84 7 (ah (aO 84 7) S7):=LD.idx (H:=[]) (hk:=[]) (by kernel_rfl) (by kernel_rfl) .nil .nil
 (A:=List Hd×List Hd×Int) (B:=Bool) (λa b k=>qcV a.1 a.2.1 b a.2.2 k) (λa=>a.2.1.length) (λa k b=>(0<=a.2.2/\a.2.2<(a.1.length:Int)/\a.1.length<=1000000/\a.2.1.length<=1000000)/\b=(a.2.1.take k).any (λy=>y.1==(a.1.getD a.2.2.toNat Ix).1))
 (λa x=>x=(.exit 2,⟨80,[(0,yO a.1),(3,.sl 0 0 a.2.1.length),(4,iD a.2.2),(5,.d (.bool (a.2.1.any (λy=>y.1==(a.1.getD a.2.2.toNat Ix).1))))],[(0,⟨0,none,v7 false a.2.1⟩)]⟩))
 (by
  rintro⟨l,out,i⟩ b k ae h0 tG dQ ⟨⟨oN,bQ,qv,lY⟩,hb⟩ hn ho;dsimp only at*
  (rw[<-R6];delta gh Zg wM Gl Dw wb Z64 BA Dx fM ux Dy Gm zz wN Zn ZA ZO Z5Z Zt nq qD rS D6 Za Z9 Zj OD)
  have e1:D.nth (out.map bN) k.toNat=bN out[k.toNat]:=aA _ _ _ dQ;have bj:i.toNat<l.length:=by omega
  have e2:D.nth (l.map bN) i.toNat=bN l[i.toNat]:=aA _ _ _ bj;have EE:=GB (λy:Hd=>y.1==(l.getD i.toNat Ix).1) out dQ;rw[e1,e2];simp only[zaa];refine bM tG (ay (λh=>ao (by omega) (hn _ ⟨⟨oN,bQ,qv,lY⟩,?_⟩)) λh=>ao ⟨h0,tG⟩ (ao dQ (aq (uy _) (ao ⟨oN,bQ⟩ (aq (uy _) (ao (by omega) (hn _ ⟨⟨oN,bQ,qv,lY⟩,?_⟩)))))))
  ·rw[EE,<-hb,h];rfl
  rw[EE,<-hb,h,zbp,dT bj];exact Nb out[k.toNat].1 l[i.toNat].1)
 (by
  rintro⟨l,out,i⟩ b k ae hk ⟨h1,hb⟩ ho;dsimp only at*
  (rw[<-R6];delta gh Zg wM Gl Dw wb Z64 BA Dx fM ux Dy Gm zz wN Zn ZA ZO Z5Z Zt nq qD rS D6 Za Z9 Zj OD)
  refine mq (by omega) (ho _ (λh=>by cases h) ?_);rw[hb,zak])
 (by rintro s ae ⟨l,out,i,b,rfl,⟨hb,h1⟩,hp⟩;refine⟨(l,out,i),b,rfl,⟨h1,by rw[hb];simp⟩,?_⟩;rintro x rfl;exact hp _ rfl)
theorem Tp:LD X 84 13 (ah (aO 84 13) S9):=LD.ins (H:=[(14,pK)]) (hk:=[]) (by kernel_rfl) (by kernel_rfl) (.cons yE .nil) .nil
 (A:=List Hd×Int×Nat) (α:=Hd) (λa o k=>S8 a.1 o a.2.2 a.2.1 k) NM (λa=>a.2.2) (λ_=>True) (λa o=>(.exit 4,⟨80,[(0,yO a.1),(3,.sl 0 0 a.2.2),(4,iD a.2.1)],[(0,⟨0,none,v7 false o⟩)]⟩)) (λ_ _ h=>by cases h)
 (by
  rintro⟨l,i,n⟩ o k ae _ h0 Hr lY hk hz b7 ec;dsimp only at*
  subst Hr
  (rw[<-qcW];delta Gm zz wN Zt nq Ap Zg wM Gl Dw XY Zs fM qD rS D6 Zc XZ Z68 Zx ll ln tH qg Da XX BA wb Dx ux Dy Z65 Za Z9 Zb Zr)
  refine cE (λhp=> ?_) λhp=>hz (by omega);have fV:k.toNat-1<o.length:=by omega
  have e1:D.nth (o.map bN) k.toNat=bN o[k.toNat]:=aA _ _ _ hk;have e2:D.nth (o.map bN) (k-1).toNat=bN o[k.toNat-1]:=by rw[show(k-1).toNat=k.toNat-1 by omega];exact aA _ _ _ fV
  have b7:=b7 hp;have ec:=ec hp;rw[e1,e2];have yW:=kB bN o k.toNat o[k.toNat] o[k.toNat-1];have Ko:=Np o k.toNat o[k.toNat] o[k.toNat-1];have e3: ∀z,D.nth ((o.map bN).set k.toNat z) (k-1).toNat=bN o[k.toNat-1]:=λz=>by rw[show(k-1).toNat=k.toNat-1 by omega];unfold D.nth;rw[zac,zaX (by omega)];simp[fV]
  generalize o[k.toNat]=x at*
  generalize o[k.toNat-1]=y at*
  have w1:D.aW (D.agg [D.int .i64 (D.aj (D.ar (bN x) 0)),D.int .i64 (D.aj (D.ar (bN x) 1)),D.int .i64 (D.aj (D.ar (bN x) 2)),D.int .i64 (D.aj (D.ar (bN x) 3))]) [D.int .i64 (D.aj (D.ar (bN y) 0)),D.int .i64 (D.aj (D.ar (bN y) 1)),D.int .i64 (D.aj (D.ar (bN y) 2)),D.int .i64 (D.aj (D.ar (bN y) 3))]=bN y:=rfl;have w2:D.aW (D.agg [D.int .i64 (D.aj (D.ar (bN y) 0)),D.int .i64 (D.aj (D.ar (bN y) 1)),D.int .i64 (D.aj (D.ar (bN y) 2)),D.int .i64 (D.aj (D.ar (bN y) 3))]) [D.int .i64 (D.aj (D.ar (bN x) 0)),D.int .i64 (D.aj (D.ar (bN x) 1)),D.int .i64 (D.aj (D.ar (bN x) 2)),D.int .i64 (D.aj (D.ar (bN x) 3))]=bN x:=rfl;rw[w1,e3,w2,show(k-1).toNat=k.toNat-1 by omega,yW];simp only[S8,zaa,zbf] at ec⊢;have yX:0<=k/\k<(o.length:Int):=⟨h0,by omega⟩
  have yY:0<=k-1/\k-1<(o.length:Int):=⟨by omega,by omega⟩
  have hf:(-9223372036854775808:Int)<=k-1/\k-1<=9223372036854775807:=by omega
  refine ao hf (ao yY (ao fV (aq (uy _) (ao yX (ao hk (aq (uy _) ⟨y.1,x.1,rfl,rfl,λr hr=>ay (λh=> ?_) λh=>b7 (by rw[<-h,hr];rfl)⟩))))));refine ao hf (ao hf (ao yY (ao fV (aq (uy _) (ao yX (ao hk (aq (uy _) (ao yX (ao hk (aq (uy _) (ao yY (ao fV (aq (uy _) (ao hf ?_))))))))))))));exact ec (by rw[<-h,hr];rfl))
 (by rintro s ae ⟨l,o,x,n,i,k,rfl,⟨hk,hn,ho⟩,hp⟩;refine⟨(l,i,n),o,x,k,rfl,hk,trivial,⟨hn.symm,ho⟩,?_⟩;have:=hp _ rfl;rw[R7,lv,<-hn] at this;exact this)
theorem Tq:LD X 84 3 (ah (aO 84 3) Tc):=LD.idx (H:=[]) (hk:=[(7,ah (aO 84 7) S7),(13,ah (aO 84 13) S9)]) (by kernel_rfl) (by kernel_rfl) .nil (.cons Tn (.cons Tp .nil))
 (A:=List Hd) (B:=List Hd) (λl o i=>R7 l o i) (λl=>l.length) (λl i o=>l.length<=1000000/\o=cj NM (qB (l.take i)))
 (λl x=>x=(.exit 0,⟨80,[(3,.sl 0 0 (cj NM (qB l)).length)],[(0,⟨0,none,v7 false (cj NM (qB l))⟩)]⟩))
 (by
  rintro l o i ae h0 bQ bj ⟨qv,ho⟩ hn bw
  (rw[<-Tb];delta Zt rX ZB Zg wM Gl Dw XY fM Jq Z8A Za Z9 Ta BA wb Z64 Gm zz wN Zn vr qD rS D6 Zj Z8y qm ux gh Z7 Jy Z3 nq)
  have lY:o.length<=i.toNat:=by rw[ho,mV];have:=qh (l.take i.toNat);rw[zay] at this;omega
  have e2:D.nth (l.map bN) i.toNat=bN l[i.toNat]:=aA _ _ _ bj;have hg:=dT bj Ix;have s8:=Gn bj;have JC:(o.any λy=>y.1==l[i.toNat].1)=((qB (l.take i.toNat)).any λy=>y.1==l[i.toNat].1):=by rw[ho];exact(b9 _).any_eq
  generalize l[i.toNat]=g at hg s8 JC e2;have t2:D.agg [D.int .i64 (D.aj (D.ar (bN g) 0)),D.int .i64 (D.aj (D.ar (bN g) 1)),D.int .i64 (D.aj (D.ar (bN g) 2)),D.int .i64 (D.aj (D.ar (bN g) 3))]=bN g:=rfl;rw[zaa];refine bM bQ ⟨l,o,i,false,rfl,⟨rfl,h0,bQ,qv,by omega⟩,λh hh=> ?_⟩;rw[hg] at hh;rw[e2,t2];simp only[zaa,zap,zat,zaG];refine ay (λh1=>ao (by omega) (hn _ ⟨qv,?_⟩)) λh1=>ao ⟨h0,bQ⟩ (aq (uy _) (aq ?_ (ao (by omega) ⟨l,o,g,o.length+1,i,((o.length+1:Nat):Int)-1,?_,⟨by omega,rfl,by omega⟩,λo' gb=>ao (by omega) (hn _ ⟨qv,?_⟩)⟩)))
  ·rw[s8,La (by rw[<-JC,<-hh,h1]),ho]
  ·rw[zab];exact⟨by simp,cq (by omega) (by omega)⟩
  ·rw[cv]
  rw[s8,Lb (by rw[<-JC,<-hh,h1]),yN,<-ho,gb])
 (by
  rintro l o i ae hi ⟨qv,ho⟩ bw
  (rw[<-Tb];delta Zt rX ZB Zg wM Gl Dw XY fM Jq Z8A Za Z9 Ta BA wb Z64 Gm zz wN Zn vr qD rS D6 Zj Z8y qm ux gh Z7 Jy Z3 nq)
  simp only[zaa];refine mq (by omega) (bw _ (λh=>by cases h) ?_);rw[ho,zak])
 (by rintro s ae ⟨l,rfl,hs,hp⟩;refine⟨l,[],rfl,⟨hs,rfl⟩,?_⟩;rintro x rfl;exact hp _ rfl)
theorem qgv:FD X 84 qdw:=FD.mk (H:=[]) (hk:=[(3,ah (aO 84 3) Tc)]) (by kernel_rfl) .nil (.cons Tq .nil) (by
 intro ps R ae hh;obtain⟨l,rfl,rfl,hs,hp⟩:=hh
 (rw[<-qgs];delta Gm zz wN fM qD qm Z8B Z7 Ng ZQ RU D6 Z8C)
 exact⟨l,rfl,hs,λo ho=>hp o ho⟩)
theorem YA:LD X 44 3 (ah (aO 44 3) qdx):=LD.idx (H:=[]) (hk:=[]) (by kernel_rfl) (by kernel_rfl) .nil .nil
 (A:=List ak) (B:=List Hd) (λl o i=>X0 l o i) (λl=>l.length) (λl i o=>l.length<=1000000/\o=(l.take i).map km)
 (λl x=>x=(.exit 0,⟨26,[(3,.sl 0 0 (l.map km).length)],[(0,⟨0,none,v7 false (l.map km)⟩)]⟩))
 (by
  rintro l o i ae h0 bQ bj ⟨qv,ho⟩ hn bw
  (rw[<-R8];delta Gm zz wN fM qD rS Zg cW ij Vu qi qj Jq Zn vr dq gj Za Z9 Zj Z6a wb eM fH ko qk)
  have lY:o.length<=i.toNat:=by rw[ho];simp;omega
  have e2:D.nth (l.map aV) i.toNat=aV l[i.toNat]:=aA _ _ _ bj;have lM:(l.take (i.toNat+1)).map km=o++[km l[i.toNat]]:=by rw[zag bj,zaz,ho];rfl
  generalize l[i.toNat]=g at e2 lM;have t2:D.agg [D.int .i64 (D.aj (D.ar (aV g) 0)),D.int .i64 (D.aj (D.ar (aV g) 1)),D.int .i64 (D.aj (D.ar (aV g) 4)),D.int .i64 (D.aj (D.ar (aV g) 5))]=bN (km g):=rfl;rw[e2,t2,cv];simp only[zaa,zap,zat,zaG];refine bM bQ (ao ⟨h0,bQ⟩ (aq (gi _) (ao ⟨h0,bQ⟩ (aq (gi _) (aq ?_ (ao (by omega) ?_))))))
  ·rw[zab];exact⟨by simp,cq (by omega) (by omega)⟩
  have:=hn (o++[km g]) ⟨qv,lM.symm⟩;simp only[X0,zan,zap,zat,zaG] at this;exact this)
 (by
  rintro l o i ae hi ⟨qv,ho⟩ bw
  (rw[<-R8];delta Gm zz wN fM qD rS Zg cW ij Vu qi qj Jq Zn vr dq gj Za Z9 Zj Z6a wb eM fH ko qk)
  simp only[zaa];refine mq (by omega) (bw _ (λh=>by cases h) ?_);rw[ho,zak])
 (by rintro s ae ⟨l,rfl,hs,hp⟩;refine⟨l,[],rfl,⟨hs,rfl⟩,?_⟩;rintro x rfl;exact hp _ rfl)
theorem qgw:FD X 44 qdy:=FD.mk (H:=[]) (hk:=[(3,ah (aO 44 3) qdx)]) (by kernel_rfl) .nil (.cons YA .nil) (by
 intro ps R ae hh;obtain⟨l,rfl,rfl,hs,hp⟩:=hh
 (rw[<-qgt];delta Gm zz wN fM qD fu mB Z8B Z7 Ng ZQ RU cW dq gj Z8D)
 exact⟨l,rfl,hs,λo ho=>hp o ho⟩)
theorem Tr:LD X 53 8 (ah (aO 53 8) Te):=LD.idx (H:=[]) (hk:=[]) (by kernel_rfl) (by kernel_rfl) .nil .nil
 (A:=List Hd×List Hd×Int) (B:=Bool) (λa b k=>qdz a.1 a.2.1 a.2.2 b k) (λa=>a.2.1.length) (λa k b=>(0<=a.2.2/\a.2.2<(a.1.length:Int)/\a.1.length<=1000000/\a.2.1.length<=1000000)/\b=(a.2.1.take k).any (λy=>y.2==(a.1.getD a.2.2.toNat Ix).1))
 (λa x=>x=(.exit 2,⟨63,[(3,.sl 0 0 a.1.length),(4,.sl 1 0 a.2.1.length),(5,iD a.2.2),(6,.d (.bool (a.2.1.any (λy=>y.2==(a.1.getD a.2.2.toNat Ix).1))))],[(0,⟨0,none,v7 false a.1⟩),(1,⟨0,none,v7 false a.2.1⟩)]⟩))
 (by
  rintro⟨l,out,i⟩ b k ae h0 tG dQ ⟨⟨oN,bQ,qv,lY⟩,hb⟩ hn ho;dsimp only at*
  (rw[<-Tf];delta gh Zg wM Gl Dw BA wb Dx fM ux Dy Gm zz VA Zn ZL ZO Zt Eb VB qD rS Za Z9 Zj OD)
  have e1:D.nth (out.map bN) k.toNat=bN out[k.toNat]:=aA _ _ _ dQ;have bj:i.toNat<l.length:=by omega
  have e2:D.nth (l.map bN) i.toNat=bN l[i.toNat]:=aA _ _ _ bj;have EE:=GB (λy:Hd=>y.2==(l.getD i.toNat Ix).1) out dQ;rw[e1,e2];simp only[zaa];refine bM tG (ay (λh=>ao (by omega) (hn _ ⟨⟨oN,bQ,qv,lY⟩,?_⟩)) λh=>ao ⟨h0,tG⟩ (ao dQ (aq (uy _) (ao ⟨oN,bQ⟩ (ao bj (aq (uy _) (ao (by omega) (hn _ ⟨⟨oN,bQ,qv,lY⟩,?_⟩))))))))
  ·rw[EE,<-hb,h];rfl
  rw[EE,<-hb,h,zbp,dT bj];exact Nb out[k.toNat].2 l[i.toNat].1)
 (by
  rintro⟨l,out,i⟩ b k ae hk ⟨h1,hb⟩ ho;dsimp only at*
  (rw[<-Tf];delta gh Zg wM Gl Dw BA wb Dx fM ux Dy Gm zz VA Zn ZL ZO Zt Eb VB qD rS Za Z9 Zj OD)
  refine mq (by omega) (ho _ (λh=>by cases h) ?_);rw[hb,zak])
 (by rintro s ae ⟨l,out,i,b,rfl,⟨hb,h1⟩,hp⟩;refine⟨(l,out,i),b,rfl,⟨h1,by rw[hb];simp⟩,?_⟩;rintro x rfl;exact hp _ rfl)
theorem Ts{l:List Hd}{i:Nat}(h:i<l.length):Hj (l.take (i+1)) []=Jk (Hj (l.take i) []) l[i]:=by rw[zag h];unfold Hj;rw[za2];rfl
theorem Tt:LD X 53 4 (ah (aO 53 4) Tk):=LD.idx (H:=[]) (hk:=[(8,ah (aO 53 8) Te)]) (by kernel_rfl) (by kernel_rfl) .nil (.cons Tr .nil)
 (A:=List Hd) (B:=List Hd) (λm on i=>Yy m on i) (λm=>m.length) (λm i on=>m.length<=1000000/\on=Hj (m.take i) [])
 (λm x=>x=(.exit 0,⟨63,[(4,.sl 0 0 (Hj m []).length)],[(0,⟨0,none,v7 false (Hj m [])⟩)]⟩))
 (by
  rintro m on i ae h0 bQ bj ⟨qv,ho⟩ hn bw
  (rw[<-Tj];delta Gm zz wN fM qD Zg wM Gl Dw XY Jq Z8A Zn Zo Za Z9 Zj Ta wb BA Dx ux Dy lr qm gh VA Z7 rI Z3 Zt Eb VB rS OD)
  have lY:on.length<=i.toNat:=by rw[ho];have:=s5 (m.take i.toNat) [];rw[zay] at this;simp at this;omega
  have e2:D.nth (m.map bN) i.toNat=bN m[i.toNat]:=aA _ _ _ bj;have hg:=dT bj Ix;have s8:=Ts bj;generalize m[i.toNat]=g at hg s8 e2;have t2:D.agg [D.int .i64 (D.aj (D.ar (bN g) 0)),D.int .i64 (D.aj (D.ar (bN g) 1)),D.int .i64 (D.aj (D.ar (bN g) 2)),D.int .i64 (D.aj (D.ar (bN g) 3))]=bN g:=rfl;refine bM bQ ⟨m,on,i,false,rfl,⟨rfl,h0,bQ,qv,by omega⟩,λh hh=> ?_⟩;rw[hg] at hh;rw[e2,t2,cv];simp only[zaa,zap,zat,zaG];refine ay (λh1=>ao ⟨h0,bQ⟩ (ao bj (aq (uy _) (aq ?_ (ao (by omega) ?_))))) λh1=>ao (by omega) (hn _ ⟨qv,?_⟩)
  ·rw[zab];exact⟨by simp,cq (by omega) (by omega)⟩
  ·have hf:(on.any λy=>y.2==g.1)=false:=by rw[<-hh];simpa using h1
   have:=hn (on++[g]) ⟨qv,by rw[s8,<-ho,Jk,zam (by rw[hf];simp)]⟩;simp only[Yy,zan,zap,zat,zaG] at this;exact this
  have hf:(on.any λy=>y.2==g.1)=true:=by rw[<-hh];simpa using h1
  rw[s8,<-ho,Jk,zao hf])
 (by
  rintro m on i ae hi ⟨qv,ho⟩ bw
  (rw[<-Tj];delta Gm zz wN fM qD Zg wM Gl Dw XY Jq Z8A Zn Zo Za Z9 Zj Ta wb BA Dx ux Dy lr qm gh VA Z7 rI Z3 Zt Eb VB rS OD)
  refine mq (by omega) (bw _ (λh=>by cases h) ?_);rw[ho,zak])
 (by rintro s ae ⟨m,rfl,hs,hp⟩;refine⟨m,[],rfl,⟨hs,rfl⟩,?_⟩;rintro x rfl;exact hp _ rfl)
theorem Tv:LD X 53 15 (ah (aO 53 15) Tm):=LD.par (H:=[]) (hk:=[]) (by kernel_rfl) (by kernel_rfl) .nil .nil
 (A:=List Hd) (B:=Nat×List az×Int) (λon b=>Yz on b.2.1 b.2.2) (λon b=>on.length<=1000000/\b.1<=on.length/\b.2.2=(b.1:Int)-1/\b.2.1=((on.drop b.1).map (·.1)).reverse) (λ_ b=>b.1)
 (λon x=>x=(.exit 4,⟨63,[(8,.sl 0 0 ((on.map (·.1)).reverse).length)],[(0,⟨0,none,l0 false ((on.map (·.1)).reverse)⟩)]⟩))
 (by
  rintro on ⟨k,out,i⟩ ⟨hm,hk,hi,ho⟩;dsimp only at*
  (rw[<-qdA];delta eL oI Nr eu zA Gm zz Zs Z7Q fM qD Za Z9 Zb Zg wM Gl Dw XX BA wb Dx ux Dy Z2)
  cases k with
  |zero=>refine mq (by omega) ?_;rw[ho,zcn];rfl
  |succ k=>
   have bI:k<on.length:=by omega
   have lY:out.length<=on.length:=by rw[ho];simp
   have hik:i.toNat=k:=by omega
   have e1:D.nth (on.map bN) i.toNat=bN on[k]:=by rw[hik];exact aA _ _ _ bI
   have hd:on.drop k=on[k]::on.drop (k+1):=za3 bI;generalize on[k]=h at e1 hd;have t2:D.agg [D.int .i64 (D.aj (D.ar (bN h) 0)),D.int .i64 (D.aj (D.ar (bN h) 1))]=bh h.1:=rfl;rw[e1,t2,cv];simp only[zaa,zap,zat,zaG];refine bM (by omega) (ao ⟨by omega,by omega⟩ (ao (by omega) (aq (uy _) (aq ?_ (ao (by omega) ?_)))))
   ·rw[zab];exact⟨by simp,cq (by omega) (by omega)⟩
   refine⟨k,zcy k,(k,out++[h.1],i-1),?_,⟨hm,by show k<=_;omega,by show i-1=(k:Int)-1;omega,?_⟩,rfl⟩
   ·simp only[Yz,zan,zap,zat,zaG]
   show out++[h.1]=_;rw[hd,ho];simp)
 (by rintro s ae ⟨on,i,rfl,⟨hi,hm⟩,hp⟩;refine⟨on,(on.length,[],i),rfl,⟨hm,zaj _,hi,by simp⟩,?_⟩;rintro x rfl;exact hp _ rfl)
theorem NN(l:List Hd):cj NM (qB l)=(pM l).reverse:=by
 have hp:(cj NM (qB l)).reverse.Perm (qB l):=(zcW _).trans (b9 _);have hw:(cj NM (qB l)).Pairwise (λx y=>lW x.1 y.1=false):=by
  have lin:He (λa b:az=>lW b a):=⟨λx=>lX.Ky x,λx y z h1 h2=>lX.tr z y x h2 h1,λx y h1 h2=>(lX.ri y x h1 h2).symm⟩
  exact mR lin (λh:Hd=>h.1) (qB l)
 have e:=Dk hp (by rw[zcE];exact hw);rw[<-e,List.reverse_reverse]
theorem qgx:FD X 53 qdB:=FD.mk (H:=[(84,qdw)]) (hk:=[(4,ah (aO 53 4) Tk),(15,ah (aO 53 15) Tm)]) (by kernel_rfl) (.cons qgv .nil) (.cons Tt (.cons Tv .nil)) (by
 intro ps R ae hh;obtain⟨l,rfl,rfl,hs,hp⟩:=hh
 (rw[<-qgu];delta eL oI Nr eu zA Zt Z7U wc Gm zz zD fM qD Za ux Z9 Z8B Z7 ZN rS Z8I qm Zx Z8H)
 refine⟨l,rfl,rfl,hs,λo ho=>⟨o,rfl,?_,λo2 ho2=> ?_⟩⟩
 ·rw[ho,mV];have:=qh l;omega
 have hl:o2.length<=1000000:=by
  have h1:=s5 o [];have h2:o.length<=l.length:=by rw[ho,mV];exact qh l
  rw[ho2];simp at h1;omega
 refine ao (by omega) ⟨o2,_,rfl,⟨rfl,hl⟩,λo3 ho3=>hp o3 ?_⟩;rw[ho3,ho2,ho,NN];rfl)
end
abbrev bxS(a:az):Obj:= .box 30 [iD a.1,iD a.2]
def Z8J(i:Int):List (Nat×P):=[(10,Zs i)]
def wT:Nat×En:=(0,zy)
def Z8M:List (Nat×En):=[wT]
def Z8P(ae:P×List (Nat×En)->Prop):Prop:=ae (P.cX [P.d (D.agg [Z7,Z7]),P.d Z3,P.d (D.int .i64 (11:Int))],[])
def Z8O(au:List Hd)(aJ:az)(ae:P×List (Nat×En)->Prop):Prop:= ∀(e:Int) (r:az) (ev:Bool),oq au aJ=(e,r,ev)->ae (P.cX (tH r::gh ev::Zv e),[])
def qdC:S->K (PX×S):=λst ae=> ∃l m x,st=er1 l m x (λ_=>none) 0 0/\(m.length<=1000000/\(m.map (·.1)).Nodup)/\ ∀f c,(∀y:az,f (bh y)=(m.find? (λh=>h.1==y)).map bN)->ae (.exit 0,⟨59,[(0,v8 l),(1,wa l),(5,.ref 0 0 0),(6,.ref 1 0 0),(10,.mp 2 0)],[(0,⟨0,none,bxS x⟩),(1,⟨0,none,.box 30 [iD 0,iD 0]⟩),(2,⟨0,none,mpS f c⟩)]⟩)
abbrev er2(x:az)(ev:Bool)(f:D->Option D)(c n i:Int):S:=⟨59,[(5,.ref 0 0 0),(6,.ref 1 0 0),(7,.d (.bool ev)),(10,.mp 2 0),(35,iD n),(36,iD i)],[(0,⟨0,none,bxS x⟩),(1,⟨0,none,.box 30 [iD 0,iD 0]⟩),(2,⟨0,none,mpS f c⟩)]⟩
def Z8Q:List D:=[Z7,Z7,Z7,Z7]
def Z8R(f:D->Option D)(x:az):D:=cF (f (D.agg [ln x,ll x])) (D.agg Z8Q)
theorem Tw(x:az)(ev:Bool)(f:D->Option D)(c n i:Int)(ae:PX×S->Prop):(bif ZI i n then bif cD PR (132:TypeId) (Z8R f x) then bif !Option.isSome (f (D.agg [ln x,ll x])) then ae (PX.ret,S.mk 59 [(6,cb),(7,P.d Z3),(8,P.d (D.int .i64 (111:Int)))] Z8M) else bif D.aj (D.ar (Z8R f x) 2)==(0:Int)&&(D.aj (D.ar (Z8R f x) 3)==(0:Int)&&true) then ae (PX.ret,S.mk 59 ((6,cb)::vA ev::Jx) (Z87 x)) else bif Zj i then ae (PX.normal,S.mk 59 [yQ,R4,(7,P.d (D.bool (lr ev))),RZ,(35,P.d (Zt n)),(36,P.d (Zn i))] [(0,En.mk 0 none (Obj.box (30:TypeId) [P.d (D.int .i64 (D.aj (D.ar (Z8R f x) 2))),P.d (D.int .i64 (D.aj (D.ar (Z8R f x) 3)))])),(1,zy),(2,An f c)]) else False else False else ae (PX.exit 2,S.mk 59 [(6,cb),vA ev] Z8M))=(aG [] [] 37 10 (er2 x ev f c n i)) ae:=by kernel_rfl
def qdD:S->K (PX×S):=λst ae=> ∃l x f c n,st=er2 x true f c n 0/\(n=(l.length:Int)+1/\l.length<=1000000/\ ∀y:az,f (bh y)=(l.find? (λh=>h.1==y)).map bN)/\(∀e r ev,oq l x=(e,r,ev)->ae (.ret,⟨59,[(6,.ref 0 0 0),(7,.d (.bool ev)),(8,iD e)],[(0,⟨0,none,bxS r⟩)]⟩))/\(oq l x=(11,(0,0),false)-> ∀ev:Bool,ae (.exit 2,⟨59,[(6,.ref 0 0 0),(7,.d (.bool ev))],[(0,⟨0,none,.box 30 [iD 0,iD 0]⟩)]⟩))
def Tx(bZ:List Hd):Prop:=qm bZ/\List.Nodup (List.map (λ(x:Hd)=>Prod.fst x) bZ)
def Z8S(l:List Hd)(m:List Hd)(x:az):S:=S.mk 59 [K9 l,K8 l,yQ,R4,RZ,(19,P.sl 3 0 (fM m)),(20,P.d (D.int .i64 (ux m))),(21,P.d Z7)] [Hk x,(1,zy),(2,Nl),(3,RX m)]
theorem qiz(l:List Hd)(x:az)(ae:P×List (Nat×En)->Prop):(∃(au:List Hd),Z6h l=Z6h au/\Zx/\qm au/\ ∀(m:List Hd),m=pM au-> ∃(iG:List Hd) (bZ:List Hd) (aJ:az),Z8S l m x=Z8S iG bZ aJ/\Tx bZ/\ ∀(f:D->Option D) (c:Int),(∀(y:az),f (bh y)=Option.map bN (List.find? (λ(h:Hd)=>Prod.fst h==y) bZ))->bif decide (Z9<=Vt iG+(1:Int)/\Vt iG+(1:Int)<=Za) then∃(l:List Hd) (x:az) (dK:D->Option D) (dU:Int) (n:Int),S.mk 59 [yQ,R4,(7,ZO),RZ,(35,P.d (D.int .i64 (Vt iG+(1:Int)))),(36,P.d Z7)] (Z5W aJ f c)=S.mk 59 [yQ,R4,(7,ZO),RZ,(35,P.d (Zt n)),(36,P.d Z7)] (Z5W x dK dU)/\(n=ux l+(1:Int)/\qm l/\ ∀(y:az),dK (bh y)=Option.rec ((λ(_:Unit)=>none) ()) (λ(val:Hd)=>(λ(val:Hd)=>(λ(x:Hd)=>some (bN x)) val) val) (List.find? (λ(h:Hd)=>Prod.fst h==y) l))/\Z8O l x ae/\(oq l x=((11:Int),((0:Int),(0:Int)),false)-> ∀(_:Bool),Z8P ae) else False)=(aK [(68,yP)] [(4,ah (aO 37 4) qdC),(10,ah (aO 37 10) qdD)] 37 [v8 l,wa l,.d (bh x)] []) ae:=by kernel_rfl
def hEr:br:=λps R ae=> ∃l x,ps=[v8 l,wa l,.d (bh x)]/\R=[]/\(l.length<=1000000/\(l.map (·.1)).Nodup)/\ ∀e r ev,oq l x=(e,r,ev)->ae (.cX [.d (bh r),.d (.bool ev),iD e],[])
theorem JG{l:List Hd}{n:Nat}{x:az}{e:Bool}(h:l.find? (λh=>h.1==x)=none):pP l (n+1) x e=(111,(0,0),false):=by unfold pP;rw[h];rfl
theorem NP{l:List Hd}{n:Nat}{x:az}{e:Bool}{g:Hd}(h:l.find? (λh=>h.1==x)=some g)(hu:g.2=(0,0)):pP l (n+1) x e=(0,x,e):=by unfold pP;rw[h];show(if g.2=(0,0) then _ else _)=_;rw[zao hu]
theorem JH{l:List Hd}{n:Nat}{x:az}{e:Bool}{g:Hd}(h:l.find? (λh=>h.1==x)=some g)(hu:g.2≠(0,0)):pP l (n+1) x e=pP l n g.2 (!e):=by rw[show pP l (n+1) x e=(match(l.find? λh=>h.1==x).map (·.2) with |none=>(111,(0,0),false)|some u=>if u=(0,0) then(0,x,e) else pP l n u (!e)) from rfl,h];show(if g.2=(0,0) then _ else _)=_;rw[zam hu]
section
variable{X:XF}
end
theorem YB{a b:az}(h:bh a=bh b):a=b:=by
 obtain⟨a1,a2⟩:=a;obtain⟨b1,b2⟩:=b;unfold bh at h;injection h with h
 injection h with h1 h2
 injection h2 with h2 h3
 injection h1 with _ h1
 injection h2 with _ h2
 simp at h1 h2;rw[h1,h2]
theorem Ty(a b:az):D.ob (bh a) (bh b)=(a==b):=by rw[zaF,D.gV,zaR];exact⟨YB,λh=>by rw[h]⟩
section
variable{X:XF}
theorem YC:LD X 37 4 (ah (aO 37 4) qdC):=LD.idx (H:=[]) (hk:=[]) (by kernel_rfl) (by kernel_rfl) .nil .nil
 (A:=List Hd×List Hd×az) (B:=(D->Option D)×Int) (λa b i=>er1 a.1 a.2.1 a.2.2 b.1 b.2 i) (λa=>a.2.1.length) (λa i b=>(a.2.1.length<=1000000/\(a.2.1.map (·.1)).Nodup)/\ ∀y:az,b.1 (bh y)=((a.2.1.take i).find? (λh=>h.1==y)).map bN)
 (λa y=> ∃f c,(∀z:az,f (bh z)=(a.2.1.find? (λh=>h.1==z)).map bN)/\y=(.exit 0,⟨59,[(0,v8 a.1),(1,wa a.1),(5,.ref 0 0 0),(6,.ref 1 0 0),(10,.mp 2 0)],[(0,⟨0,none,bxS a.2.2⟩),(1,⟨0,none,.box 30 [iD 0,iD 0]⟩),(2,⟨0,none,mpS f c⟩)]⟩))
 (by
  rintro⟨l,m,x⟩ ⟨f,c⟩ i ae h0 bQ bj ⟨⟨hm,ky⟩,hf⟩ hn ho;dsimp only at*
  (rw[<-R5];delta An Z7 qy zy ll ln Ao Hk Z5W RX Zg wM Gl Dw XX Z5T Zn fM ux RZ jE R4 cb yQ ql K8 nZ K9 Za Z9 Zj wb Dx Dy OD)
  have e1:D.nth (m.map bN) i.toNat=bN m[i.toNat]:=aA _ _ _ bj;have lM:m.take (i.toNat+1)=m.take i.toNat++[m[i.toNat]]:=zag bj;have hnk: ∀z∈m.take i.toNat,z.1≠m[i.toNat].1:=by
   intro z hz he;have:(m.take (i.toNat+1)).map (·.1)|>.Nodup:=(ky.sublist ((zcX _ _).map _))
   rw[lM,zaz,zaU] at this;exact this.2.2 z.1 (za7 hz) _ (by simp) he
  rw[e1];generalize m[i.toNat]=g at lM hnk;have t1:D.agg [D.int .i64 (D.aj (D.ar (bN g) 0)),D.int .i64 (D.aj (D.ar (bN g) 1))]=bh g.1:=rfl;have t2:D.agg [D.int .i64 (D.aj (D.ar (bN g) 0)),D.int .i64 (D.aj (D.ar (bN g) 1)),D.int .i64 (D.aj (D.ar (bN g) 2)),D.int .i64 (D.aj (D.ar (bN g) 3))]=bN g:=rfl;refine bM bQ (ao ⟨h0,bQ⟩ (ao (by simpa using bj) (aq (X1 _) (ao (by omega) ?_))));refine hn (_,_) ⟨⟨hm,ky⟩,λy=> ?_⟩;show(bif D.ob (bh g.1) (bh y) then some (bN g) else f (bh y))=_;rw[Ty,hf y,lM,List.find?_append];by_cases hy:g.1=y
  ·subst hy;rw[show(g.1==g.1)=true by simp,zbS];rw[show(m.take i.toNat).find? (λh=>h.1==g.1)=none from by rw[zcm];intro z hz;simpa using hnk z hz];simp
  rw[show(g.1==y)=false by simpa using hy,zbo];simp[hy])
 (by
  rintro⟨l,m,x⟩ ⟨f,c⟩ i ae hi ⟨⟨hm,ky⟩,hf⟩ ho;dsimp only at*
  (rw[<-R5];delta An Z7 qy zy ll ln Ao Hk Z5W RX Zg wM Gl Dw XX Z5T Zn fM ux RZ jE R4 cb yQ ql K8 nZ K9 Za Z9 Zj wb Dx Dy OD)
  refine mq (by omega) (ho _ (λh=>by cases h) ⟨f,c,?_,rfl⟩);rw[zak] at hf;exact hf)
 (by rintro s ae ⟨l,m,x,rfl,h1,hp⟩;refine⟨(l,m,x),(λ_=>none,0),rfl,⟨h1,λy=>rfl⟩,?_⟩;rintro y ⟨f,c,h3,rfl⟩;exact hp f c h3)
theorem YD:LD X 37 10 (ah (aO 37 10) qdD):=LD.idx (H:=[]) (hk:=[]) (by kernel_rfl) (by kernel_rfl) .nil .nil
 (A:=List Hd×az×(D->Option D)×Int×Int) (B:=az×Bool) (λa b i=>er2 b.1 b.2 a.2.2.1 a.2.2.2.1 a.2.2.2.2 i) (λa=>a.1.length+1)
 (λa n b=>(a.2.2.2.2=(a.1.length:Int)+1/\a.1.length<=1000000/\ ∀y:az,a.2.2.1 (bh y)=(a.1.find? (λh=>h.1==y)).map bN)/\n<=a.1.length+1/\oq a.1 a.2.1=pP a.1 (a.1.length+1-n) b.1 b.2)
 (λa y=>(∃e r ev,oq a.1 a.2.1=(e,r,ev)/\y=(.ret,⟨59,[(6,.ref 0 0 0),(7,.d (.bool ev)),(8,iD e)],[(0,⟨0,none,bxS r⟩)]⟩))\/(oq a.1 a.2.1=(11,(0,0),false)/\ ∃ev:Bool,y=(.exit 2,⟨59,[(6,.ref 0 0 0),(7,.d (.bool ev))],[(0,⟨0,none,.box 30 [iD 0,iD 0]⟩)]⟩)))
 (by
  rintro⟨l,x0,f,c,N⟩ ⟨x,ev⟩ n ae h0 r7 Pp ⟨⟨hN,hm,hf⟩,hn1,hr⟩ hn ho;dsimp only at*
  (rw[<-Tw];delta An Z7 qy zy Zn Zt RZ lr jE R4 cb yQ Za Z9 Zj ll ln Ao Hk Z87 Jx gh vA wT Z8M Z3 Z8Q Z8R ZI)
  have hfu:l.length+1-n.toNat=(l.length-n.toNat)+1:=by omega
  rw[hfu] at hr;rw[show f (D.agg [D.int .i64 x.1,D.int .i64 x.2])=(l.find? (λh=>h.1==x)).map bN from hf x];refine bM (by omega) ?_;cases hg:l.find? (λh=>h.1==x) with
  |none=>have z0:cF ((none:Option Hd).map bN) (D.agg [D.int .i64 0,D.int .i64 0,D.int .i64 0,D.int .i64 0])=bN Ix:=rfl;rw[z0];refine aq (X1 _) (ay (λ_=>ho _ (λh=>by cases h) (.inl ⟨111,(0,0),false,?_,rfl⟩)) λh=>by simp at h);rw[hr,JG hg]
  |some g=>
   have z0:cF ((some g).map bN) (D.agg [D.int .i64 0,D.int .i64 0,D.int .i64 0,D.int .i64 0])=bN g:=rfl;rw[z0,show(D.aj (D.ar (bN g) 2)==0&&(D.aj (D.ar (bN g) 3)==0&&true))=(g.2==(0,0)) from Nb g.2 (0,0)];refine aq (X1 _) (ay (λh=>by simp at h) λ_=>ay (λhu=>ho _ (λh=>by cases h) (.inl ⟨0,x,ev,?_,rfl⟩)) λhu=>ao (by omega) (hn (g.2,!ev) ⟨⟨hN,hm,hf⟩,by omega,?_⟩))
   ·rw[hr,NP hg (by simpa using hu)]
   rw[hr,JH hg (by simpa using hu)];congr 1;omega)
 (by
  rintro⟨l,x0,f,c,N⟩ ⟨x,ev⟩ n ae r7 ⟨⟨hN,hm,hf⟩,hn1,hr⟩ ho;dsimp only at*
  (rw[<-Tw];delta An Z7 qy zy Zn Zt RZ lr jE R4 cb yQ Za Z9 Zj ll ln Ao Hk Z87 Jx gh vA wT Z8M Z3 Z8Q Z8R ZI)
  refine mq (by omega) (ho _ (λh=>by cases h) (.inr ⟨?_,ev,rfl⟩));rw[hr,Nat.sub_self];rfl)
 (by
  rintro s ae ⟨l,x,f,c,n,rfl,h1,h2,h3⟩;refine⟨(l,x,f,c,n),(x,true),rfl,⟨h1,by omega,rfl⟩,?_⟩;rintro y (⟨e,r,ev,h4,rfl⟩| ⟨h4,ev,rfl⟩)
  ·exact h2 e r ev h4
  exact h3 h4 ev)
theorem qiA:FD X 37 hEr:=FD.mk (H:=[(68,yP)]) (hk:=[(4,ah (aO 37 4) qdC),(10,ah (aO 37 10) qdD)]) (by kernel_rfl) (.cons Lc .nil) (.cons YC (.cons YD .nil)) (by
 intro ps R ae hh;obtain⟨l,x,rfl,rfl,⟨hm,ky⟩,hp⟩:=hh
 (rw[<-qiz];delta Z3 Z7 Z8P Zt Zv gh ll ln tH Z8O fM ux An qy zy Ao Hk Z5W RZ ZO jE R4 cb yQ Za ql nZ Vt Z9 qm Tx RX Nl K8 K9 Z8S Zx Z6h)
 have Gp:(pM l).Perm l:=by unfold pM;rw[sZ ky];exact b9 _
 simp only[zaa];refine⟨l,rfl,rfl,hm,λm Vi=>⟨l,m,x,rfl,⟨by rw[Vi,Gp.length_eq];exact hm,by rw[Vi];exact(Gp.map (·.1)).nodup_iff.2 ky⟩,λf c hf=>ao (by omega) ⟨l,x,f,c,_,rfl,⟨by omega,hm,λy=> ?_⟩,λe r ev h=>hp e r ev h,λh ev=>hp _ _ _ h⟩⟩⟩;rw[hf y,Vi,Nj ky Gp y];cases l.find? (λh:Hd=>h.1==y)<;>rfl)
end
abbrev arI(z:Bool)(v:List Int):Obj:= .arr 3 z (aZ v)
abbrev hvH(m:List ak)(v:List Int)(i:Int):S:=⟨33,[(3,.sl 0 0 16),(8,.sl 1 0 m.length),(9,iD (m.length:Int)),(10,iD i)],[(0,⟨0,none,arI false v⟩),(1,⟨0,none,qC false m⟩)]⟩
def BJ(m:List ak):Nat×En:=(1,r9 m)
def BK(m:List ak):P:=P.d (D.int .i64 (ot m))
def tL(m:List ak):P:=P.sl 1 0 (fu m)
def Z8V:Nat×P:=(3,P.sl 0 0 16)
def GC(m:List ak)(i:Int):Int:=D.aj (D.ar (ij m i) 1)-(1:Int)
theorem qa7(m:List ak)(v:List Int)(i:Int)(ae:PX×S->Prop):(bif Jp i m then bif vY i m then bif tJ i m then bif eM m i then bif decide (Z9<=GC m i/\GC m i<=Za) then bif decide (Z9<=GC m i/\GC m i<=Za) then bif decide ((0:Int)<=GC m i/\GC m i<(16:Int)) then bif decide (Int.toNat (GC m i)<List.length (aZ v)) then bif cD PR (3:TypeId) (D.nth (aZ v) (Int.toNat (GC m i))) then bif decide ((0:Int)<=GC m i/\GC m i<(16:Int)) then bif decide (Int.toNat (GC m i)<List.length (aZ v)) then bif cD PR (3:TypeId) (D.nth (aZ v) (Int.toNat (GC m i))) then bif Zj i then ae (PX.normal,S.mk 33 [Z8V,(8,tL m),(9,BK m),(10,P.d (Zn i))] [(0,En.mk 0 none (Obj.arr (3:TypeId) false (List.set (aZ v) (Int.toNat (GC m i)) (D.aW (D.int .i64 (D.aj (D.nth (aZ v) (Int.toNat (GC m i))))) [D.int .i64 (max (D.aj (D.nth (aZ v) (Int.toNat (GC m i)))) (D4 m i))])))),BJ m]) else False else False else False else False else False else False else False else False else False else False else False else False else ae (PX.exit 0,S.mk 33 [Z8V] (ZD v)))=(aG [] [] 27 3 (hvH m v i)) ae:=by kernel_rfl
def mr(m:List ak):Prop:=m.length<=1000000/\ ∀g∈m,1<=g.s.2/\g.s.2<=16/\1<=g.s.1/\g.s.1<=1099511627776/\1<=g.n/\g.n<=1099511627776
def gHv:S->K (PX×S):=λst ae=> ∃m,st=hvH m (List.replicate 16 0) 0/\mr m/\ ∀v,v=rP m->ae (.exit 0,⟨33,[(3,.sl 0 0 16)],[(0,⟨0,none,arI false v⟩)]⟩)
def DH:br:=λps R ae=> ∃v,ps=[vD v]/\R=[]/\v.length<=1000000/\ ∀w,w=bq v->ae (vD w,[])
def Z90(m:List ak):S:=S.mk 33 [Z8V,(8,tL m),(9,BK m),(10,P.d Z7)] [(0,En.mk 0 none (Obj.arr (3:TypeId) false (Z7::Z7::Z7::Z7::Z7::Z7::Z7::Z7::Z7::Z7::Z7::Z7::Z8Q))),BJ m]
def Ec(l:List ak)(au:List ak):Prop:=[dq l]=[dq au]
theorem qiB(l:List ak)(ae:P×List (Nat×En)->Prop):(∃(au:List ak),Ec l au/\Zx/\mn au/\ ∀(m:List ak),m=aI au-> ∃(bZ:List ak),Z90 m=Z90 bZ/\mr bZ/\ ∀(v:List Int),v=rP bZ-> ∃(de:List Int),[P.d (D.sl 1 (List.take 16 (aZ v)))]=ZW de/\Zx/\Hh de/\ ∀(w:List Int),w=bq de->ae (Zk w,[]))=(aK [(30,vX),(45,DH)] [(3,ah (aO 27 3) gHv)] 27 [bT l] []) ae:=by kernel_rfl
def hHv:br:=λps R ae=> ∃l,ps=[bT l]/\R=[]/\mn l/\ ∀v,v=s6 (aI l)->ae (vD v,[])
abbrev hnH(r:Int)(v:List Int)(m:List ak)(t i:Int):S:=⟨50,[(1,iD r),(4,.ref 0 0 0),(6,iD t),(7,vD v),(21,.sl 3 0 m.length),(22,iD (m.length:Int)),(23,iD i)],[(0,⟨0,none,.box 34 [iD 0,iD 0,iD 0,.sl 1 0 0,iD 0,iD 0,.sl 2 0 0]⟩),(1,⟨0,none,arI false []⟩),(2,⟨0,none,.arr 54 false []⟩),(3,⟨0,none,qC false m⟩)]⟩
def Z92:Nat×En:=(2,En.mk 0 none (Obj.arr (54:TypeId) false []))
def Z91:Nat×En:=(0,En.mk 0 none (Obj.box (34:TypeId) [P.d Z7,P.d Z7,P.d Z7,zD,P.d Z7,P.d Z7,P.sl 2 0 0]))
def Z94:List (Nat×En):=[Z91,(1,ZT),Z92]
def Z93(m:List ak):List (Nat×En):=[Z91,(1,ZT),Z92,(3,r9 m)]
theorem qa8(r:Int)(v:List Int)(m:List ak)(t i:Int)(ae:PX×S->Prop):(bif Jp i m then bif vY i m then bif tJ i m then bif eM m i then bif Zj i then ae (PX.normal,S.mk 50 [ZF r,As,(6,P.d (D.int .i64 (max t (D.aj (D.ar (ij m i) 0))))),(7,Zk v),(21,P.sl 3 0 (fu m)),(22,BK m),(23,P.d (Zn i))] (Z93 m)) else False else False else False else False else ae (PX.exit 0,S.mk 50 [ZF r,As,ZK t,(7,Zk v)] Z94))=(aG [] [] 12 5 (hnH r v m t i)) ae:=by kernel_rfl
def gHn:S->K (PX×S):=λst ae=> ∃r v m,st=hnH r v m 0 0/\mr m/\ ∀t,t=jD m->ae (.exit 0,⟨50,[(1,iD r),(4,.ref 0 0 0),(6,iD t),(7,vD v)],[(0,⟨0,none,.box 34 [iD 0,iD 0,iD 0,.sl 1 0 0,iD 0,iD 0,.sl 2 0 0]⟩),(1,⟨0,none,arI false []⟩),(2,⟨0,none,.arr 54 false []⟩)]⟩)
def Z96:List D:=[Z7,Z7,D.sl 18 []]
def Z9b(t:Int)(ae:P×List (Nat×En)->Prop)(cB:Int)(n:Int)(de:List Int):Prop:=bif Zj t then ae (P.cX (P.d (D.agg (Zn t::Zt cB::Zn n::D.sl 1 (aZ de)::Z96))::qy),[]) else False
def Lw:D:=D.sl 1 []
def Z97:P:=P.d (D.agg (Z7::Z7::Z7::Lw::Z96))
def Z9a(ae:P×List (Nat×En)->Prop):Prop:=ae (P.cX [Z97,P.d Xa],[])
def Z99(r:Int)(v:List Int)(m:List ak):S:=S.mk 50 [ZF r,As,(6,P.d Z7),(7,Zk v),(21,P.sl 3 0 (fu m)),(22,BK m),(23,P.d Z7)] (Z93 m)
def Z98(ae:P×List (Nat×En)->Prop):Prop:=ae (P.cX (Z97::ZX),[])
theorem qiC(l:List ak)(r:Int)(ae:P×List (Nat×En)->Prop):(bif Z6 r then Z98 ae else bif ZY r then Z98 ae else∃(au:List ak),Ec l au/\Zx/\mn au/\ ∀(v:List Int),v=s6 (aI au)-> ∃(iG:List ak),Ec l iG/\Zx/\mn iG/\ ∀(m:List ak),m=aI iG-> ∃(cB:Int) (de:List Int) (bZ:List ak),Z99 r v m=Z99 cB de bZ/\mr bZ/\ ∀(t:Int),t=jD bZ-> ∃(v:List Int) (r:Int),Zw de cB v r/\Zx/\Hh v/\ ∀(n:Int),n=eG v r->bif Zj n then bif Zj t then bif decide (max (t+(1:Int)) (n+(1:Int))>Z1) then Z9a ae else Z9b t ae cB n de else False else False)=(aK [(30,vX),(27,hHv),(31,F9)] [(5,ah (aO 12 5) gHn)] 12 [bT l,iD r] []) ae:=by kernel_rfl
def hHn:br:=λps R ae=> ∃l r,ps=[bT l,iD r]/\R=[]/\mn l/\ ∀g e,g=vu (aI l) r->e=pO (aI l) r->ae (.cX [.d (aV g),iD e],[])
def JI:br:=λps R ae=> ∃v r n,ps=[vD v,iD r,iD n]/\R=[]/\(v.length<=1000000/\1<=r/\r<=16)/\ ∀w,w=bq (gK v r n)->ae (.cX [vD w,iD 0],[])
def Z9d(Ha:List Int)(r:Int):Prop:=Hh Ha/\(1:Int)<=r/\r<=(16:Int)
def Z9c(Ha:List Int)(r:Int)(cH:Int):List P:=Zk Ha::P.d (Zt r)::Zv cH
theorem NQ{g:ak}(h:ct g=true):1<=g.s.2/\g.s.2<=16/\1<=g.s.1/\g.s.1<=1099511627776/\1<=g.n/\g.n<=1099511627776:=by unfold ct Q6 at h;simp only[zab,uc,zah] at h;omega
theorem yZ{l:List ak}(h:l.length<=1000000):mr (aI l):=by have:=dJ l;exact⟨by omega,λg hg=>NQ (rO g hg)⟩
theorem mr.sub{m k:List ak}(h:mr m)(hs: ∀g∈k,g∈m)(hl:k.length<=1000000):mr k:=⟨hl,λg hg=>h.2 g (hs g hg)⟩
theorem YE(v:List Int)(i:Nat)(h:i<v.length):D.nth (aZ v) i= .int .i64 (v.getD i 0):=by rw[aZ,aA _ _ _ h,dT h]
theorem YF(v:List Int)(i:Nat)(n:Int):(aZ v).set i (.int .i64 n)=aZ (v.set i n):=by simp[aZ,zb1]
section
variable{X:XF}
theorem Tz:FD X 45 DH:=KL.weaken λps R ae h=>by obtain⟨v,rfl,rfl,hs,hp⟩:=h;exact⟨v,rfl,rfl,hs,hp _ rfl⟩
theorem YG:FD X 46 JI:=W2.weaken λps R ae h=>by obtain⟨v,r,n,rfl,rfl,⟨hs,h1,h2⟩,hp⟩:=h;exact⟨v,r,n,rfl,rfl,hs,λh=>absurd ⟨h1,h2⟩ h,λ_=>hp _ rfl⟩
theorem qdE:LD X 27 3 (ah (aO 27 3) gHv):=LD.idx (H:=[]) (hk:=[]) (by kernel_rfl) (by kernel_rfl) .nil .nil
 (A:=List ak) (B:=List Int) (λm v i=>hvH m v i) (λm=>m.length) (λm i v=>mr m/\v=rP (m.take i))
 (λm x=>x=(.exit 0,⟨33,[(3,.sl 0 0 16)],[(0,⟨0,none,arI false (rP m)⟩)]⟩))
 (by
  rintro m v i ae h0 bQ bj ⟨hr,hv⟩ hn ho
  (rw[<-qa7];delta ZD cW r9 BJ Zg ij D4 Zn fu ot BK tL Z8V Za Z9 Zj GC eM fH tJ vY Jp)
  have e1:D.nth (m.map aV) i.toNat=aV m[i.toNat]:=aA _ _ _ bj;have hg:=hr.2 _ (zas bj);have Wc:=hr.1;have jM:=λ(h1:1<=(m[i.toNat]'bj).s.2) (h2:(m[i.toNat]'bj).s.2<=16)=>RI (l:=m.take i.toNat) (g:=m[i.toNat]'bj) h1 h2;rw[<-zag bj,<-hv] at jM;rw[e1];generalize m[i.toNat]=g at hg jM;have hvl:v.length=16:=by rw[hv,jt]
  have c1:D.aj (D.ar (aV g) 1)=g.s.2:=rfl;have c2:D.aj (D.ar (aV g) 2)=g.n:=rfl;rw[c1,c2,YE v _ (by omega)];have w1: ∀a b:Int,D.aW (D.int .i64 a) [D.int .i64 b]= .int .i64 b:=λ_ _=>rfl;have v1: ∀a:Int,D.aj (.int .i64 a)=a:=λ_=>rfl;rw[v1,w1,YF,jM hg.1 hg.2.1];have jL:(-9223372036854775808:Int)<=g.s.2-1/\g.s.2-1<=9223372036854775807:=by omega
  have cr:(0:Int)<=g.s.2-1/\g.s.2-1<((16:Nat):Int):=by omega
  have lE:(g.s.2-1).toNat<(aZ v).length:=by simp[aZ];omega
  refine bM bQ (ao ⟨h0,bQ⟩ (ao (by simpa using bj) (aq (gi _) (ao jL (ao jL (ao cr (ao lE (aq (Aq _) (ao cr (ao lE (aq (Aq _) (ao (by omega) (hn _ ⟨hr,rfl⟩))))))))))))))
 (by
  rintro m v i ae hi ⟨hr,hv⟩ ho
  (rw[<-qa7];delta ZD cW r9 BJ Zg ij D4 Zn fu ot BK tL Z8V Za Z9 Zj GC eM fH tJ vY Jp)
  refine mq (by omega) (ho _ (λh=>by cases h) ?_);rw[hv,zak])
 (by rintro s ae ⟨m,rfl,hs,hp⟩;refine⟨m,_,rfl,⟨hs,RJ.symm⟩,?_⟩;rintro x rfl;exact hp _ rfl)
theorem qiD:FD X 27 hHv:=FD.mk (H:=[(30,vX),(45,DH)]) (hk:=[(3,ah (aO 27 3) gHv)]) (by kernel_rfl) (.cons K6 (.cons Tz .nil)) (.cons qdE .nil) (by
 intro ps R ae hh;obtain⟨l,rfl,rfl,hs,hp⟩:=hh
 (rw[<-qiB];delta Zk Hh ZW cW r9 BJ Z7 Z8Q fu ot BK tL Z8V Z90 Zx dq Ec)
 refine⟨l,rfl,rfl,hs,λm hm=>⟨m,rfl,by rw[hm];exact yZ hs.1,λv hv=>⟨v,?_,rfl,?_,λw hw=>hp w ?_⟩⟩⟩
 ·have e:List.take 16 (aZ v)=aZ v:=zai (by simp[aZ,hv,jt]);rw[e]
 ·rw[hv,jt];omega
 rw[hw,hv,hm];rfl)
theorem GD{m:List ak}{i:Nat}(h:i<m.length):jD (m.take (i+1))=max (jD (m.take i)) m[i].s.1:=by rw[zag h,RM]
theorem qdF:LD X 12 5 (ah (aO 12 5) gHn):=LD.idx (H:=[]) (hk:=[]) (by kernel_rfl) (by kernel_rfl) .nil .nil
 (A:=Int×List Int×List ak) (B:=Int) (λa t i=>hnH a.1 a.2.1 a.2.2 t i) (λa=>a.2.2.length) (λa i t=>mr a.2.2/\t=jD (a.2.2.take i))
 (λa x=>x=(.exit 0,⟨50,[(1,iD a.1),(4,.ref 0 0 0),(6,iD (jD a.2.2)),(7,vD a.2.1)],[(0,⟨0,none,.box 34 [iD 0,iD 0,iD 0,.sl 1 0 0,iD 0,iD 0,.sl 2 0 0]⟩),(1,⟨0,none,arI false []⟩),(2,⟨0,none,.arr 54 false []⟩)]⟩))
 (by
  rintro⟨r,v,m⟩ t i ae h0 bQ bj ⟨hr,ht⟩ hn ho
  try dsimp only at*
  (rw[<-qa8];delta Z92 ZT zD Z7 Z91 Z94 Zt ZK cW r9 Z93 Zn fu ot BK Zk Zg ij cb As ZF Za Z9 Zj eM fH tJ vY Jp)
  have e1:D.nth (m.map aV) i.toNat=aV m[i.toNat]:=aA _ _ _ bj;have Wc:=hr.1;have Cj:=GD bj;rw[e1];generalize m[i.toNat]=g at Cj;refine bM bQ (ao ⟨h0,bQ⟩ (ao (by simpa using bj) (aq (gi _) (ao (by omega) (hn _ ⟨hr,?_⟩)))));rw[Cj,<-ht];rfl)
 (by
  rintro⟨r,v,m⟩ t i ae hi ⟨hr,ht⟩ ho
  try dsimp only at*
  (rw[<-qa8];delta Z92 ZT zD Z7 Z91 Z94 Zt ZK cW r9 Z93 Zn fu ot BK Zk Zg ij cb As ZF Za Z9 Zj eM fH tJ vY Jp)
  refine mq (by omega) (ho _ (λh=>by cases h) ?_);rw[ht,zak];rfl)
 (by rintro s ae ⟨r,v,m,rfl,hs,hp⟩;refine⟨(r,v,m),0,rfl,⟨hs,rfl⟩,?_⟩;rintro x rfl;exact hp _ rfl)
end
theorem BL{l:List ak}{r:Int}(h: ¬(1<=r/\r<=16)):pO l r=1:=by unfold pO;rw[zao h]
theorem BM{l:List ak}{r:Int}(h:pO l r≠0):vu l r=noG:=by unfold vu;rw[zam h]
theorem TA{l:List ak}{r:Int}(h:1<=r/\r<=16):pO l r=if max (jD l+1) (Bx l r+1)>1099511627776 then 2 else 0:=by unfold pO;rw[zam (by simpa using h)]
section
variable{X:XF}
theorem qgy:FD X 12 hHn:=FD.mk (H:=[(30,vX),(27,hHv),(31,F9)]) (hk:=[(5,ah (aO 12 5) gHn)]) (by kernel_rfl) (.cons K6 (.cons qiD (.cons qaS .nil))) (.cons qdF .nil) (by
 intro ps R ae hh;obtain⟨l,r,rfl,rfl,hs,hp⟩:=hh
 (rw[<-qiC];delta Z7 qy Z96 Zt Zn Za Z9 Zj Z9b Xa Lw Z97 Z9a Z1 Hh Zv Zk Zw cW r9 Z92 ZT zD Z91 Z93 fu ot BK cb As ZF Z99 Zx dq Ec ZY ZR ZX Z98 Z6)
 have qgz: ¬(1<=r/\r<=16)->ae (.cX [.d (aV noG),iD 1],[]):=λh=>hp _ _ (BM (by rw[BL h];omega)).symm (BL h).symm;refine cE (λh1=>qgz (by omega)) λh1=>cE (λh2=>qgz (by omega)) λh2=>⟨l,rfl,rfl,hs,λv hv=>⟨l,rfl,rfl,hs,λm hm=>⟨r,v,m,rfl,by rw[hm];exact yZ hs.1,λt ht=>⟨v,r,rfl,rfl,?_,λn hn=> ?_⟩⟩⟩⟩
 ·rw[hv];have:=Gh (aI l);omega
 have s8:=yZ hs.1;have zT:=ml m;have ht3:jD m<=1099511627776:=Jm (by omega) m λg hg=>by rw[hm] at hg;exact(s8.2 g hg).2.2.2.1
 have Va:n=Bx m r:=by rw[hn,hv,K0 _ _ (by omega) (by omega),hm]
 have hn3:0<=Bx m r:=rQ m r;have hn4:Bx m r<=1099511627776:=Jl m 0 (by omega) λg hg=>by rw[hm] at hg;exact(s8.2 g hg).2.2.2.2.2
 have hE:=TA (l:=m) (r:=r) ⟨by omega,by omega⟩;rw[<-hm] at hp;refine ao (by omega) (ao (by omega) (cE (λh3=> ?_) λh3=>ao (by omega) ?_))
 ·rw[zao (by rw[<-ht,<-Va];exact h3)] at hE;exact hp _ _ (BM (by rw[hE];omega)).symm hE.symm
 rw[zam (by rw[<-ht,<-Va];exact h3)] at hE;have hX:vu m r=qaU m r:=by unfold vu;rw[zao hE]
 have:=hp _ _ rfl rfl;rw[hX,hE] at this;rw[ht,Va,hv,<-hm];exact this)
end
theorem vC{m:List ak}{i:Nat}(h:i<m.length)(t:ak->Bool):(m.take (i+1)).filter t=(m.take i).filter t++(if t m[i]=true then [m[i]] else []):=by
 rw[zag h,zb4];congr 1;by_cases ht:t m[i]=true
 ·rw[zao ht];simp[ht]
 rw[zam ht];simp[ht]
section
variable{X:XF}
end
abbrev bxN(n:Nat)(r:Int):Nat×En:=(n,⟨0,some n,.box 3 [iD r]⟩)
def mv(r:Int)(x:ak):Bool:=x.s.2 !=r
def GF:br:=λps R ae=> ∃(x:ak) (r:Int),ps=[.d (aV x),.ref 0 0 0]/\R=[bxN 0 r]/\ae (.d (.bool (mv r x)),[bxN 0 r])
theorem qdG(x:ak)(r:Int)(ae:P×List (Nat×En)->Prop):(ae (P.d (D.bool (Prod.snd (ak.s x) !=r)),[(0,En.mk 0 (some 0) (Obj.box 3 [P.d (D.int IntKind.i64 r)]))]))=(aK [] [] 63 [.d (aV x),.ref 0 0 0] [bxN 0 r]) ae:=by kernel_rfl
abbrev TB(m:List ak)(r:Int):List (Nat×En):=[(0,⟨0,some 0,qC false m⟩),bxN 1 r]
abbrev DI:P:= .fn 63 [.ref 1 0 0]
abbrev ixO(m:List ak)(r n k:Int):S:=⟨19,[(0,.sl 0 0 m.length),(1,DI),(7,iD n),(8,iD k)],TB m r⟩
abbrev oxO(m:List ak)(r:Int)(i:Int):PX×S:=(.ret,⟨19,[(0,.sl 0 0 m.length),(1,DI),(4,iD i)],TB m r⟩)
abbrev oxE(m:List ak)(r:Int):PX×S:=(.exit 0,⟨19,[(0,.sl 0 0 m.length),(1,DI)],TB m r⟩)
def OI(cB:Int):List (Nat×En):=[(1,En.mk 0 (some 1) (Obj.box (3:TypeId) (Zv cB)))]
def YH:Nat×P:=(1,P.fn (63:FuncId) [jE])
def Z9q(r:Int):List (Nat×En):=[(0,En.mk 0 (some 0) (Obj.box (3:TypeId) (Zv r)))]
def Z9p(m:List ak)(k:Int)(x:ak):Prop:=[P.d (D.agg (Am m k)),cb]=[oR x,cb]
theorem qa9(m:List ak)(r n k:Int)(ae:PX×S->Prop):(bif ZI k n then bif vY k m then bif tJ k m then bif eM m k then∃(x:ak) (cB:Int),Z9p m k x/\Z9q r=Z9q cB/\bif mv cB x then ae (PX.ret,S.mk 19 (tI m::YH::Ap k) (Dt m::OI cB)) else bif Zj k then ae (PX.normal,S.mk 19 (tI m::YH::rX n::qG k) (Dt m::OI cB)) else False else False else False else False else ae (PX.exit 0,S.mk 19 [tI m,YH] (Dt m::OI r)))=(aG [(63,GF)] [] 96 2 (ixO m r n k)) ae:=by kernel_rfl
def qdH:S->K (PX×S):=λs ae=> ∃m r,s=ixO m r (m.length:Int) 0/\m.length<=1000000/\(∀(i:Int) (hi:i.toNat<m.length),0<=i->mv r m[i.toNat]=true->(∀j (hj:j<i.toNat),mv r (m[j]'(by omega))=false)->ae (oxO m r i))/\((∀j (hj:j<m.length),mv r m[j]=false)->ae (oxE m r))
theorem qdI(m:List ak)(r:Int)(ae:P×List (Nat×En)->Prop):(∃(bZ:List ak),∃(cB:Int),S.mk 19 [(0,P.sl 0 0 (List.length m)),(1,P.fn 63 [P.ref 1 0 0]),(7,P.d (D.int IntKind.i64 (↑(List.length m):Int))),(8,P.d (D.int IntKind.i64 (0:Int)))] [(0,En.mk 0 (some 0) (Obj.arr 34 false (List.map aV m))),(1,En.mk 0 (some 1) (Obj.box 3 [P.d (D.int IntKind.i64 r)]))]=S.mk 19 [(0,P.sl 0 0 (List.length bZ)),(1,P.fn 63 [P.ref 1 0 0]),(7,P.d (D.int IntKind.i64 (↑(List.length bZ):Int))),(8,P.d (D.int IntKind.i64 (0:Int)))] [(0,En.mk 0 (some 0) (Obj.arr 34 false (List.map aV bZ))),(1,En.mk 0 (some 1) (Obj.box 3 [P.d (D.int IntKind.i64 cB)]))]/\List.length bZ<=1000000/\(∀(i:Int) (hi:Int.toNat i<List.length bZ),(0:Int)<=i->mv cB bZ[Int.toNat i]=true->(∀(j:Nat) (hj:j<Int.toNat i),mv cB bZ[j]=false)->ae (P.d (D.int IntKind.i64 i),[(0,En.mk 0 (some 0) (Obj.arr 34 false (List.map aV bZ))),(1,En.mk 0 (some 1) (Obj.box 3 [P.d (D.int IntKind.i64 cB)]))]))/\((∀(j:Nat) (hj:j<List.length bZ),mv cB bZ[j]=false)->ae (P.d (D.int IntKind.i64 (-1:Int)),[(0,En.mk 0 (some 0) (Obj.arr 34 false (List.map aV bZ))),(1,En.mk 0 (some 1) (Obj.box 3 [P.d (D.int IntKind.i64 cB)]))])))=(aK [] [(2,ah (aO 96 2) qdH)] 96 [.sl 0 0 m.length,DI] (TB m r)) ae:=by kernel_rfl
def qdJ:br:=λps R ae=> ∃m r,ps=[.sl 0 0 m.length,DI]/\R=TB m r/\m.length<=1000000/\(∀(i:Int) (hi:i.toNat<m.length),0<=i->mv r m[i.toNat]=true->(∀j (hj:j<i.toNat),mv r (m[j]'(by omega))=false)->ae (iD i,TB m r))/\((∀j (hj:j<m.length),mv r m[j]=false)->ae (iD (-1),TB m r))
abbrev dlH(q:List ak)(n:Nat)(r i k:Int):S:=⟨42,[(0,.sl 0 0 n),(1,DI),(5,iD i),(6,iD k)],TB q r⟩
theorem qiE(q:List ak)(n:Nat)(r i k:Int)(ae:PX×S->Prop):(bif Sr k n then bif mC k n then bif tJ k q then bif eM q k then∃(x:ak) (cB:Int),Z9p q k x/\Z9q r=Z9q cB/\bif !mv cB x then bif mC i n then bif tJ i q then bif eM q i then bif Zj i then bif Zj k then ae (PX.normal,S.mk 42 (q8 n::YH::(5,P.d (Zn i))::ZA k) ((0,En.mk 0 (some 0) (Obj.arr (34:TypeId) false (List.set (cW q) (Zg i) (D.aW (D.agg (Am q i)) (Am q k)))))::OI cB)) else False else False else False else False else False else bif Zj k then ae (PX.normal,S.mk 42 (q8 n::YH::Eb i::ZA k) (Dt q::OI cB)) else False else False else False else False else ae (PX.exit 0,S.mk 42 [q8 n,YH,Eb i] (Dt q::OI r)))=(aG [(63,GF)] [] 62 5 (dlH q n r i k)) ae:=by kernel_rfl
def y5(r:Int)(x:ak):Bool:=x.s.2==r
abbrev dlE(q:List ak)(n:Nat)(r i:Int):PX×S:=(.exit 0,⟨42,[(0,.sl 0 0 n),(1,DI),(5,iD i)],TB q r⟩)
structure qdK(m:List ak)(r i k:Int):Prop where
 len:m.length<=1000000
 i0:0<=i
 ik:k=i+1
 kl:k<=m.length
 eq:(m.take k.toNat).filter (y5 r)=m.take i.toNat
def gDl:S->K (PX×S):=λs ae=> ∃m r i k,s=dlH m m.length r i k/\qdK m r i k/\ ∀(o:List ak) (i':Int),o=m.filter (y5 r)->i'=o.length->o.length<=m.length->ae (dlE (o++m.drop o.length) m.length r i')
theorem qgA(m:List ak)(r:Int)(ae:P×List (Nat×En)->Prop):(∃(bZ:List ak),∃(cB:Int),[P.sl 0 0 (List.length m),P.fn 63 [P.ref 1 0 0]]=[P.sl 0 0 (List.length bZ),P.fn 63 [P.ref 1 0 0]]/\[(0,En.mk 0 (some 0) (Obj.arr 34 false (List.map aV m))),(1,En.mk 0 (some 1) (Obj.box 3 [P.d (D.int IntKind.i64 r)]))]=[(0,En.mk 0 (some 0) (Obj.arr 34 false (List.map aV bZ))),(1,En.mk 0 (some 1) (Obj.box 3 [P.d (D.int IntKind.i64 cB)]))]/\List.length bZ<=1000000/\(∀(i:Int) (hi:Int.toNat i<List.length bZ),(0:Int)<=i->mv cB bZ[Int.toNat i]=true->(∀(j:Nat) (hj:j<Int.toNat i),mv cB bZ[j]=false)->bif i==(-1:Int) then ae (P.sl 0 0 (List.length m),[(0,En.mk 0 (some 0) (Obj.arr 34 false (List.map aV bZ))),(1,En.mk 0 (some 1) (Obj.box 3 [P.d (D.int IntKind.i64 cB)]))]) else bif decide ((-9223372036854775808:Int)<=i+(1:Int)/\i+(1:Int)<=(9223372036854775807:Int)) then∃(NR:List ak),∃(r:Int),∃(aH:Int),∃(k:Int),S.mk 42 [(0,P.sl 0 0 (List.length m)),(1,P.fn 63 [P.ref 1 0 0]),(5,P.d (D.int IntKind.i64 i)),(6,P.d (D.int IntKind.i64 (i+(1:Int))))] [(0,En.mk 0 (some 0) (Obj.arr 34 false (List.map aV bZ))),(1,En.mk 0 (some 1) (Obj.box 3 [P.d (D.int IntKind.i64 cB)]))]=S.mk 42 [(0,P.sl 0 0 (List.length NR)),(1,P.fn 63 [P.ref 1 0 0]),(5,P.d (D.int IntKind.i64 aH)),(6,P.d (D.int IntKind.i64 k))] [(0,En.mk 0 (some 0) (Obj.arr 34 false (List.map aV NR))),(1,En.mk 0 (some 1) (Obj.box 3 [P.d (D.int IntKind.i64 r)]))]/\qdK NR r aH k/\ ∀(o:List ak) (i':Int),o=List.filter (y5 r) NR->i'=(↑(List.length o):Int)->List.length o<=List.length NR->bif decide ((0:Int)<=i'/\i'<=(↑(List.length NR):Int)) then bif decide (Int.toNat i'+(List.length NR-Int.toNat i')<=List.length (List.map aV (o++List.drop (List.length o) NR))) then bif decide ((0:Int)<=i'/\i'<=(↑(List.length NR):Int)) then ae (P.sl 0 0 (Int.toNat i'),[(0,En.mk 0 (some 0) (Obj.arr 34 false (List.take (Int.toNat i') (List.map aV (o++List.drop (List.length o) NR))++List.replicate (List.length NR-Int.toNat i') (D.agg [D.int IntKind.i64 (0:Int),D.int IntKind.i64 (0:Int),D.int IntKind.i64 (0:Int),D.fP,D.int IntKind.i64 (0:Int),D.int IntKind.i64 (0:Int),D.fP])++List.drop (Int.toNat i'+(List.length NR-Int.toNat i')) (List.map aV (o++List.drop (List.length o) NR))))),(1,En.mk 0 (some 1) (Obj.box 3 [P.d (D.int IntKind.i64 r)]))]) else False else False else False else False)/\((∀(j:Nat) (hj:j<List.length bZ),mv cB bZ[j]=false)->ae (P.sl 0 0 (List.length m),[(0,En.mk 0 (some 0) (Obj.arr 34 false (List.map aV bZ))),(1,En.mk 0 (some 1) (Obj.box 3 [P.d (D.int IntKind.i64 cB)]))])))=(aK [(96,qdJ)] [(5,ah (aO 62 5) gDl)] 62 [.sl 0 0 m.length,DI] (TB m r)) ae:=by kernel_rfl
def hDl:br:=λps R ae=> ∃m r,ps=[.sl 0 0 m.length,DI]/\R=TB m r/\m.length<=1000000/\ ∀(o:List ak) (tl:List D),o=m.filter (y5 r)->ae (.sl 0 0 o.length,[(0,⟨0,some 0,.arr 34 false (o.map aV++tl)⟩),bxN 1 r])
def gtK(a b:az):Bool:=lW b a
def JJ:br:=K3 65 34 aV (λg:ak=>g.s) gtK
def Z9u(o:List ak)(tl:List D):List (Nat×En):=[(0,En.mk 0 (some 0) (Obj.arr (34:TypeId) false (cW o++tl)))]
def Z9t(m:List ak):List P:=[oH m,P.fn (63:FuncId) [jE]]
theorem qgB(l:List ak)(r:Int)(ae:P×List (Nat×En)->Prop):(∃(au:List ak),Ec l au/\Zx/\mn au/\ ∀(m:List ak),m=aI au-> ∃(bZ:List ak) (cB:Int),Z9t m=Z9t bZ/\Dt m::OI r=Dt bZ::OI cB/\mB bZ/\ ∀(o:List ak) (tl:List D),o=List.filter (y5 cB) bZ-> ∃(l:List ak) (qgC:List D),[oH o,P.fn (65:FuncId) []]=[oH l,P.fn (65:FuncId) []]/\Z9u o tl=Z9u l qgC/\mB l/\ ∀(l':List ak),List.Perm l' l->List.Pairwise (λ(a b:ak)=>gtK (ak.s b) (ak.s a)=false) l'->ae (P.fn (101:FuncId) [cb],[(0,En.mk 0 none (Obj.box (22:TypeId) [P.d (D.sl 7 (List.take (fu o) (cW l'++qgC)))]))]))=(aK [(30,vX),(62,hDl),(64,JJ)] [] 36 [bT l,iD r] []) ae:=by kernel_rfl
def TC:br:=λps R ae=> ∃l r,ps=[bT l,iD r]/\R=[]/\mn l/\ ∀o,o=vW (aI l) r->ae (.fn 101 [.ref 0 0 0],[(0,⟨0,none,.box 22 [.d (.sl 7 (o.map aV))]⟩)])
def qgD:br:=λps R ae=> ∃a b:ak,ps=[.d (aV a),.d (aV b)]/\R=[]/\ae (iD (pI b.s.1 b.s.2 a.s.1 a.s.2),[])
theorem qdL(a b:ak)(ae:P×List (Nat×En)->Prop):(∃(t:Int) (r:Int) (t':Int) (r':Int),M7 b::I2 a=IV t r t' r'/\Zx/\ae (P.d (D.int .i64 (pI t r t' r')),[]))=(aK [(66,ug)] [] 65 [.d (aV a),.d (aV b)] []) ae:=by kernel_rfl
theorem y7{α:Type}{f:α->D}(hf: ∀{a b},f a=f b->a=b){l m:List α}(h:l.map f=m.map f):l=m:=(List.map_inj_right (f:=f) (λ_ _=>hf)).1 h
theorem qgE{a b:az}(h:bh a=bh b):a=b:=by obtain⟨a1,a2⟩:=a;obtain⟨b1,b2⟩:=b;unfold bh iE at h;simp only[D.agg.injEq,zcI,D.int.injEq,zc3,zc4] at h;rw[h.1,h.2]
theorem qba{a b:av}(h:bE a=bE b):a=b:=by obtain⟨a1,a2,a3⟩:=a;obtain⟨b1,b2,b3⟩:=b;unfold bE at h;simp only[D.agg.injEq,zcI,D.int.injEq,zc3,zc4] at h;rw[h.1,h.2.1,h.2.2]
theorem qdM{l m:List Int}(h:aZ l=aZ m):l=m:=y7 (f:=D.int .i64) (λh=>by cases h;rfl) h
theorem qgF{a b:aX}(h:eI a=eI b):a=b:=by obtain⟨k,⟨n1,n2,n3⟩,⟨p1,p2,p3⟩,nm,dr,ds,⟨a1,a2,a3⟩,⟨e1,e2,e3⟩,tx,es⟩:=a;obtain⟨k',⟨n1',n2',n3'⟩,⟨p1',p2',p3'⟩,nm',dr',ds',⟨a1',a2',a3'⟩,⟨e1',e2',e3'⟩,tx',fA⟩:=b;unfold eI iE at h;simp only[D.agg.injEq,zcI,D.int.injEq,D.str.injEq,D.bool.injEq,D.sl.injEq,zc3,zc4] at h;obtain⟨rfl,rfl,rfl,rfl,rfl,rfl,rfl,rfl,rfl,h1,rfl,rfl,rfl,rfl,rfl,rfl,rfl,h2⟩:=h;rw[y7 qgE h1,y7 qba h2]
theorem qbb{a b:ak}(h:aV a=aV b):a=b:=by obtain⟨⟨s1,s2⟩,n,d,⟨u1,u2⟩,o⟩:=a;obtain⟨⟨s1',s2'⟩,n',d',⟨u1',u2'⟩,o'⟩:=b;unfold aV iE at h;simp only[D.agg.injEq,zcI,D.int.injEq,D.sl.injEq,zc3,zc4] at h;obtain⟨rfl,rfl,rfl,h1,rfl,rfl,h2⟩:=h;rw[qdM h1,y7 qgF h2]
noncomputable def qdN(d:D):ak:=by classical exact if h: ∃g,aV g=d then h.choose else⟨(0,0),0,[],(0,0),[]⟩
theorem TD(g:ak):qdN (aV g)=g:=by
 have h: ∃x,aV x=aV g:=⟨g,rfl⟩
 unfold qdN;rw[dif_pos h];exact qbb h.choose_spec
theorem pU(r:Int)(x:ak):y5 r x= !mv r x:=by unfold y5 mv bne;rw[Bool.not_not]
theorem qdO:FC 65 qgD:=FC.mk (H:=[(66,ug)]) (by kernel_rfl) (.cons qaQ .nil) (by
 intro ps R ae hh;obtain⟨a,b,rfl,rfl,hp⟩:=hh
 (rw[<-qdL];delta Zx Zt ZE IV jA gO jB gQ M7 I2)
 exact⟨_,_,_,_,rfl,rfl,hp⟩)
theorem wU{m o:List ak}(h:o.length<=m.length):(o++m.drop o.length).length=m.length:=by simp;omega
theorem YI{m o:List ak}{k:Nat}(hk:k<m.length)(h:o.length<=k):(o++m.drop o.length)[k]'(by rw[wU (by omega)];exact hk)=m[k]:=by rw[List.getElem_append_right h,List.getElem_drop];congr 1;omega
theorem YJ{m o:List ak}{x:ak}(h:o.length<m.length):(o++m.drop o.length).set o.length x=(o++[x])++m.drop (o++[x]).length:=by rw[zcF _ _ (zaj _),Nat.sub_self,zaZ];congr 1;rw[za3 h,List.set_cons_zero];simp
theorem Lx{m o:List ak}{k:Nat}(hk:k<m.length)(h:o.length<=k):D.nth ((o++m.drop o.length).map aV) k=aV m[k]:=by rw[aA _ _ _ (by rw[wU (by omega)];exact hk),YI hk h]
section
variable{X:XF}
theorem TE:FD X 63 GF:=FD.mk (H:=[]) (hk:=[]) (by kernel_rfl) .nil .nil (by intro ps R ae hh;obtain⟨x,r,rfl,rfl,hp⟩:=hh;rw[<-qdG];exact hp)
theorem YK:LD X 96 2 (ah (aO 96 2) qdH):=
 LD.find (H:=[(63,GF)]) (hk:=[]) (by kernel_rfl) (by kernel_rfl) (.cons TE .nil) .nil
  (A:=List ak×Int) (λa k=>ixO a.1 a.2 (a.1.length:Int) k) (·.1) (λa _ x=>mv a.2 x) (λa=>a.1.length<=1000000) (λa i=>oxO a.1 a.2 i) (λa=>oxE a.1 a.2) (λ_ _ h=>by cases h) (λ_ h=>by cases h)
  (by
   rintro⟨m,r⟩ k ae dQ hm h0 hk ht hf;dsimp only at*
   (rw[<-qa9];delta Zn qG Zt rX Za Z9 Zj Zv OI cW Dt nq Ap jE YH fu oH tI Z9q jy jz jA gO jB gQ oR cb Zg ij D4 qi qj Am Z9p eM fH tJ ot vY ZI)
   have e1:D.nth (m.map aV) k.toNat=aV m[k.toNat]:=aA _ _ _ dQ;rw[e1];simp only[zaa];refine bM hk (ao ⟨h0,hk⟩ (ao dQ (aq (gi _) ⟨m[k.toNat],r,rfl,rfl,ay (λh=>ht h) λh=>ao (by omega) (hf h)⟩))))
  (by
   rintro⟨m,r⟩ k ae hm hk hp;dsimp only at*
   (rw[<-qa9];delta Zn qG Zt rX Za Z9 Zj Zv OI cW Dt nq Ap jE YH fu oH tI Z9q jy jz jA gO jB gQ oR cb Zg ij D4 qi qj Am Z9p eM fH tJ ot vY ZI)
   exact mq (by omega) hp)
  (by rintro s ae ⟨m,r,rfl,hm,h1,h2⟩;exact⟨(m,r),rfl,hm,h1,h2⟩)
theorem qgG:FD X 96 qdJ:=FD.mk (H:=[]) (hk:=[(2,ah (aO 96 2) qdH)]) (by kernel_rfl) .nil (.cons YK .nil) (by intro ps R ae hh;obtain⟨m,r,rfl,rfl,hm,h1,h2⟩:=hh;rw[<-qdI];exact⟨m,r,rfl,hm,h1,h2⟩)
theorem qdP:LD X 62 5 (ah (aO 62 5) gDl):=
 LD.par (H:=[(63,GF)]) (hk:=[]) (by kernel_rfl) (by kernel_rfl) (.cons TE .nil) .nil
  (A:=List ak×Int) (B:=List ak×Int×Int) (λa b=>dlH (b.1++a.1.drop b.1.length) a.1.length a.2 b.2.1 b.2.2)
  (λa b=>a.1.length<=1000000/\b.1=(a.1.take b.2.2.toNat).filter (y5 a.2)/\b.2.1=(b.1.length:Int)/\0<=b.2.2/\b.2.2.toNat<=a.1.length)
  (λa b=>((a.1.length:Int)-b.2.2).toNat)
  (λa x=> ∃(o:List ak) (i:Int),o=a.1.filter (y5 a.2)/\i=(o.length:Int)/\o.length<=a.1.length/\x=dlE (o++a.1.drop o.length) a.1.length a.2 i)
  (by
   rintro⟨m,r⟩ ⟨o,i,k⟩ ⟨hm,ho,hi,h0,hk⟩;dsimp only at*
   have lY:o.length<=k.toNat:=by rw[ho];refine zaI (za5 _ _) ?_;simp;omega
   (rw[<-qiE];delta cW Dt Zt Eb Zv OI Zg ij D4 qi qj Am Zn ZA jE YH ZB q8 Za Z9 Zj Z9q jy jz jA gO jB gQ oR cb Z9p eM fH tJ mC Sr)
   refine cE (λhp=> ?_) λhp=> ?_
   ·have bj:k.toNat<m.length:=by omega
    have kC:=vC bj (y5 r);have EL:=wU (m:=m) (o:=o) (by omega);have e1:D.nth ((o++m.drop o.length).map aV) k.toNat=aV m[k.toNat]:=Lx bj lY;have jM:=λx:ak=>YJ (m:=m) (o:=o) (x:=x) (by omega);have hit:i.toNat=o.length:=by omega
    have hib:0<=i/\i<(m.length:Int):=⟨by omega,by omega⟩
    have hif:(-9223372036854775808:Int)<=i+1/\i+1<=9223372036854775807:=by omega
    have hQ:(-9223372036854775808:Int)<=k+1/\k+1<=9223372036854775807:=by omega
    have e2:D.nth ((o++m.drop o.length).map aV) i.toNat=aV m[i.toNat]:=Lx (by omega) (by omega);rw[e1,e2];generalize m[k.toNat]=g at*
    generalize m[i.toNat]=y at*
    have w1: ∀x y:ak,D.aW (D.agg [D.int .i64 (D.aj (D.ar (aV x) 0)),D.int .i64 (D.aj (D.ar (aV x) 1)),D.int .i64 (D.aj (D.ar (aV x) 2)),D.sl 1 (D.fa (D.ar (aV x) 3)),D.int .i64 (D.aj (D.ar (aV x) 4)),D.int .i64 (D.aj (D.ar (aV x) 5)),D.sl 18 (D.fa (D.ar (aV x) 6))]) [D.int .i64 (D.aj (D.ar (aV y) 0)),D.int .i64 (D.aj (D.ar (aV y) 1)),D.int .i64 (D.aj (D.ar (aV y) 2)),D.sl 1 (D.fa (D.ar (aV y) 3)),D.int .i64 (D.aj (D.ar (aV y) 4)),D.int .i64 (D.aj (D.ar (aV y) 5)),D.sl 18 (D.fa (D.ar (aV y) 6))]=aV y:=λ_ _=>rfl;rw[w1,hit,<-zb1,jM];simp only[zaa,EL];refine ao ⟨h0,hp⟩ (ao bj (aq (gi _) ⟨g,r,rfl,rfl,ay (λh=> ?_) λh=> ?_⟩))
    ·refine ao hib (ao (by omega) (aq (gi _) (ao hif (ao hQ ?_))));refine⟨((m.length:Int)-(k+1)).toNat,by omega,(o++[g],i+1,k+1),rfl,⟨hm,?_,?_,by show 0<=k+1;omega,by show(k+1).toNat<=m.length;omega⟩,rfl⟩
     ·show o++[g]=_;rw[show(k+1).toNat=k.toNat+1 by omega,kC,zao (by rw[pU];exact h),ho]
     show i+1=((o++[g]).length:Int)
     rw[zan];simp;exact hi
    refine ao hQ ?_;refine⟨((m.length:Int)-(k+1)).toNat,by omega,(o,i,k+1),rfl,⟨hm,?_,hi,by show 0<=k+1;omega,by show(k+1).toNat<=m.length;omega⟩,rfl⟩;show o=_;rw[show(k+1).toNat=k.toNat+1 by omega,kC,zam (by rw[pU,h];simp),zbi];exact ho
   refine⟨o,i,?_,hi,by omega,rfl⟩;rw[ho,zai (by omega)])
  (by
   rintro s ae ⟨m,r,i,k,rfl,hq,hp⟩;have tG:=hq.kl;have h0:=hq.i0;have hik:=hq.ik;have hl:(m.take i.toNat).length=i.toNat:=by rw[zay];omega
   refine⟨(m,r),(m.take i.toNat,i,k),?_,⟨hq.len,hq.eq.symm,?_,by show 0<=k;omega,by show k.toNat<=m.length;omega⟩,?_⟩
   ·dsimp only;rw[hl,zbR]
   ·show i=_;rw[hl];omega
   rintro x ⟨o,i',h1,h2,h3,rfl⟩;exact hp o i' h1 h2 h3)
theorem qgH{m:List ak}{r:Int}(h: ∀j (hj:j<m.length),mv r m[j]=false):m.filter (y5 r)=m:=by rw[List.filter_eq_self];intro x hx;obtain⟨j,hj,rfl⟩:=zaW hx;rw[pU,h j hj];rfl
theorem YL{m:List ak}{r i:Int}(hm:m.length<=1000000)(hi:i.toNat<m.length)(h0:0<=i)(ht:mv r m[i.toNat]=true)(hb: ∀j (hj:j<i.toNat),mv r (m[j]'(by omega))=false):qdK m r i (i+1):=by refine⟨hm,h0,rfl,by omega,?_⟩;rw[show(i+1).toNat=i.toNat+1 by omega,vC hi,zam (by rw[pU,ht];simp),zbi,List.filter_eq_self];intro x hx;obtain⟨j,hj,rfl⟩:=zc9.1 hx;rw[pU,hb j (by omega)];rfl
theorem qiF:FD X 62 hDl:=FD.mk (H:=[(96,qdJ)]) (hk:=[(5,ah (aO 62 5) gDl)]) (by kernel_rfl) (.cons qgG .nil) (.cons qdP .nil) (by
 intro ps R ae hh;obtain⟨m,r,rfl,rfl,hm,hp⟩:=hh;rw[<-qgA];refine⟨m,r,rfl,rfl,hm,λi hi h0 ht hb=>By (λh=>by omega) λ_=>ao (by omega) ⟨m,r,i,i+1,rfl,YL hm hi h0 ht hb,λo i' ho xr lY=> ?_⟩,λh=> ?_⟩
 ·have hit:i'.toNat=o.length:=by omega
  refine ao (by omega) (ao (by rw[hit,zaa,wU lY];omega) (ao (by omega) ?_));rw[hit,zaz,zb3 (by simp),zaZ];exact hp o _ ho
 have:=hp m [] (qgH h).symm;rwa [zbi] at this)
theorem YM:FD X 64 JJ:=RQ (dec:=qdN) (c:=λa b=>pI b.s.1 b.s.2 a.s.1 a.s.2)
 (FD.sP Tryz.func64 (by kernel_rfl) (by kernel_rfl) λps R ae h=>ve h) (λx=>TD x) Dm (λx y=>(De y.s x.s).lt) (λ_=>⟨_,rfl⟩)
 (λx y=>FC.qfO qdO ⟨x,y,rfl,rfl,rfl⟩) ⟨_,Tryz.func65,by kernel_rfl,by kernel_rfl⟩
theorem qbc:FD X 36 TC:=FD.mk (H:=[(30,vX),(62,hDl),(64,JJ)]) (hk:=[]) (by kernel_rfl) (.cons K6 (.cons qiF (.cons YM .nil))) .nil (by
 intro ps R ae hh;obtain⟨l,r,rfl,rfl,hs,hp⟩:=hh
 (rw[<-qgB];delta cW fu cb Z9u oH mB Zt Zv OI Dt jE Z9t Zx dq Ec)
 have qv:=dJ l;have r8:=hs.1;refine⟨l,rfl,rfl,hs,λm hm=>⟨m,r,rfl,rfl,by rw[hm];omega,λo tl ho=>⟨o,tl,rfl,rfl,?_,λl' Gp hpw=> ?_⟩⟩⟩
 ·rw[ho,hm];exact zaI (za5 _ _) (by omega)
 have e:l'=vW (aI l) r:=K1 (nX l) (by rw[<-hm];exact ho▸Gp) hpw;rw[<-Gp.length_eq,zb3 (by simp)];exact hp l' e)
end
def n5(ns:List Nat):List (Nat×En)->List (Nat×En)
 | []=>[]
 | (k,e)::r=>(k,if gS k ns then⟨e.aY,none,e.obj⟩ else e)::n5 ns r
def S.lz(ns:List Nat)(s:S):S:=⟨s.n,s.tm,n5 ns s.rg⟩
theorem y8(ns:List Nat)(n:Nat): ∀(R:List (Nat×En)),lk (n5 ns R) n=(lk R n).map λe=>if gS n ns then⟨e.aY,none,e.obj⟩ else e
 | []=>rfl
 | (k,e)::r=>by
  simp only[n5,lk];split
  next hk=>rw[zaf hk];rfl
  exact y8 ns n r
theorem kD{ns:List Nat}{R:List (Nat×En)}{n:Nat}{e':En}(h:lk (n5 ns R) n=some e'): ∃e,lk R n=some e/\e'.aY=e.aY/\e'.obj=e.obj/\(e'.tag=none\/e'=e):=by
 rw[y8,zaw] at h;obtain⟨e,he,rfl⟩:=h;refine⟨e,he,?_⟩;split
 ·exact⟨rfl,rfl,.inl rfl⟩
 exact⟨rfl,rfl,.inr rfl⟩
theorem GG{ns:List Nat}{R:List (Nat×En)}{n:Nat}{e:En}(h:lk R n=some e): ∃e',lk (n5 ns R) n=some e'/\e'.aY=e.aY/\e'.obj=e.obj:=by rw[y8,h];refine⟨_,rfl,?_⟩;split<;>exact⟨rfl,rfl⟩
section
variable{Q:Program}{T:Tg}{F:Nat->Prop}{G:Nat->Value}{w:World}{a:Act}{s:S}{ns:List Nat}
theorem BN:Own G (n5 ns s.rg)=Own G s.rg:=by
 funext b;refine propext ⟨?_,?_⟩
 ·rintro⟨n,e',he,hb⟩;obtain⟨e,h1,_,h3,_⟩:=kD he;exact⟨n,e,h1,by rw[<-h3];exact hb⟩
 rintro⟨n,e,he,hb⟩;obtain⟨e',h1,_,h3⟩:=GG (ns:=ns) he;exact⟨n,e',h1,by rw[h3];exact hb⟩
theorem aD.lz(h:aD Q T F G w a s):aD Q T F G w a (s.lz ns):=by
 have hN:Names G G s.rg (n5 ns s.rg):=⟨λn e he=>by obtain⟨e',h1,h2,h3⟩:=GG (ns:=ns) he;exact⟨e',h1,by omega,λ_ hl=>by rw[h3] at hl;exact hl⟩,λ_ _ _ _ _ _ _=>rfl⟩
 have hx:Ext (Own G s.rg) (Own G (n5 ns s.rg)) F F w w:=by rw[BN];exact Ext.refl _ _ _
 refine⟨h.rp.go hx,h.size,λt p hp=>cx.mono (λ_ h=>h) (λ_ _=>rfl) hN (h.tm t p hp),λn e' he=> ?_,λn m e e' b he cK hb dj=> ?_,λn e b he hb=> ?_,h.ji,λn e i he hi hl=> ?_,h.z,h.dr,h.sz⟩
 ·obtain⟨e,h1,_,h3,_⟩:=kD he;rw[h3];exact(h.rg n e h1).mono (λ_ h=>h) (λ_ _=>rfl) hN rfl (λ_ _=>rfl)
 ·obtain⟨x,h1,_,h3,_⟩:=kD he;obtain⟨x',Oi,_,h3',_⟩:=kD cK;rw[h3] at hb;rw[h3'] at dj;exact h.own n m x x' b h1 Oi hb dj
 ·obtain⟨x,h1,_,h3,_⟩:=kD he;rw[h3] at hb;exact h.my n x b h1 hb
 obtain⟨x,h1,_,h3,h4⟩:=kD he;rcases h4 with h4 |h4
 ·rw[h4] at hi;cases hi
 subst h4;exact h.tag n _ i h1 hi hl
end
theorem TW.lz{Q:Program}{T:Tg}{c:Code}{s:S}{ns:List Nat}{ae:PX×S->Prop}(h:TW Q T c (s.lz ns) ae):TW Q T c s ae:=λr tF F G w a Q' hs hK=>h tF F G w a Q' hs.lz λe s' a' w' hp hP=>hK e s' a' w' hp (by obtain⟨F',G',h1,h2⟩:=hP;refine⟨F',G',h1,?_⟩;have e:Own G (s.lz ns).rg=Own G s.rg:=BN;rw[<-e];exact h2)
theorem LN.qiG{X:XF}{w0:World}(hX:du PR w0 X.cf)(ns:List Nat){H HN:List (FuncId×br)}{hk:List (Nat×(S->K (PX×S)))}{f id:Nat}{g:S->K (PX×S)}(hdr:PR.follows .mixedOrders=true)(hu:uniq PR f=true)(hc:b8 (qe f) (bA PR f id)=true)(hnr:(bR (bA PR f id)).isEmpty=true)(hH:HD X H)(oi:K2 w0 HN)(hl:XL w0 f hk)
  {A B:Type} (hd:A->B->S) (Inv:A->B->Prop) (mu:A->B->Nat) (Out:A->PX×S->Prop)
  (hr: ∀a b,Inv a b->eZ H HN hk f id (hd a b) (roundPost (mu a b) (λm s=> ∃b',s.lz ns=hd a b'/\Inv a b'/\m=mu a b') (Out a)))
  (hg: ∀s ae,g s ae-> ∃a b,s.lz ns=hd a b/\Inv a b/\ ∀x,Out a x->ae x):LN w0 f id (ah (aO f id) g):=by
 intro val lo mk s ae hp;unfold ah at hp;cases hh:cw (aO f id) s with
 |none=>simp only[hh] at hp
 |some s0=>
  simp only[hh] at hp;obtain⟨a,b,h0,h1,h2⟩:=hg s0 ae hp;refine TW.mono (TW.loop (keep:=aO f id) (I:=λm s=> ∃b',s.lz ns=hd a b'/\Inv a b'/\m=mu a b') (O:=Out a) (λn s hs=> ?_) hh ⟨b,h0,h1,rfl⟩) h2;obtain⟨b',h4,h3,rfl⟩:=hs;have:=hr a b' h3;unfold eZ at this;refine TW.lz (ns:=ns) ?_;rw[h4];refine TW.mono (dZ (kp:=IB X) (T:=⟨val,w0,lo,mk⟩) oi.get (yI hH) hX hdr (kp1:=aO f) (bA PR f id) hc (λd hd h hh s ae hp=>by have:=hl.get _ _ hh val lo mk s ae hp;rwa [tY hu hd] at this) (λx hx=>by rw[zbN.1 hnr] at hx;cases hx) _ _ this) ?_;rintro⟨e,s1⟩ hx;cases e with
  |normal=>obtain⟨s2,h4,m,h5,h6⟩:=KW.dP (p:=λs2=>cw (aO f id) s1=some s2) (λ_ h=>h) _ hx;exact⟨s2,h4,m,h5,h6⟩
  |exit i=>obtain⟨s2,h4,h5⟩:=KW.dP (p:=λs2=>dC (aO f id) s1=some s2) (λ_ h=>h) _ hx;exact⟨s2,h4,h5⟩
  |ret=>obtain⟨s2,h4,h5⟩:=KW.dP (p:=λs2=>dC (aO f id) s1=some s2) (λ_ h=>h) _ hx;exact⟨s2,h4,h5⟩
theorem LN.qgI{X:XF}{w0:World}(hX:du PR w0 X.cf)(ns:List Nat){H HN:List (FuncId×br)}{hk:List (Nat×(S->K (PX×S)))}{f id:Nat}{g:S->K (PX×S)}(hdr:PR.follows .mixedOrders=true)(hu:uniq PR f=true)(hc:b8 (qe f) (bA PR f id)=true)(hnr:(bR (bA PR f id)).isEmpty=true)(hH:HD X H)(oi:K2 w0 HN)(hl:XL w0 f hk)
  {A B:Type} (hd:A->B->Int->S) (len:A->Nat) (Inv:A->Nat->B->Prop) (Out:A->PX×S->Prop)
  (hr: ∀a b (k:Int) ae,0<=k->k<len a->k.toNat<len a->Inv a k.toNat b->(∀b' s,S.lz ns s=hd a b' (k+1)->Inv a (k.toNat+1) b'->ae (.normal,s))->(∀x,x.1≠ .normal->Out a x->ae x)->eZ H HN hk f id (hd a b k) ae)
  (hx: ∀a b (k:Int) ae,k=len a->Inv a (len a) b->(∀x,x.1≠ .normal->Out a x->ae x)->eZ H HN hk f id (hd a b k) ae)
  (hg: ∀s ae,g s ae-> ∃a b,S.lz ns s=hd a b 0/\Inv a 0 b/\ ∀x,Out a x->ae x):LN w0 f id (ah (aO f id) g):=
 LN.qiG hX ns hdr hu hc hnr hH oi hl (A:=A) (B:=B×Int) (λa b=>hd a b.1 b.2) (λa b=>0<=b.2/\b.2.toNat<=len a/\Inv a b.2.toNat b.1) (λa b=>(len a-b.2).toNat) Out
  (by
   rintro a ⟨b,k⟩ ⟨h1,h2,h3⟩;dsimp only at*
   have bw: ∀x:PX×S,x.1≠ .normal->Out a x->roundPost ((len a-k).toNat) (λm s=> ∃b':B×Int,s.lz ns=hd a b'.1 b'.2/\(0<=b'.2/\b'.2.toNat<=len a/\Inv a b'.2.toNat b'.1)/\m=(len a-b'.2).toNat) (Out a) x:=by
    rintro⟨e,s⟩ dI hx;cases e with
    |normal=>exact absurd rfl dI
    |exit i=>exact hx
    |ret=>exact hx
   by_cases hk:k<len a
   ·refine hr a b k _ h1 hk (by omega) h3 (λb' s hs hb=> ?_) bw;exact⟨((len a:Int)-(k+1)).toNat,by omega,(b',k+1),hs,⟨by show 0<=k+1;omega,by show(k+1).toNat<=len a;omega,by show Inv a (k+1).toNat b';rw[show(k+1).toNat=k.toNat+1 by omega];exact hb⟩,rfl⟩
   have e:k=len a:=by omega
   refine hx a b k _ e ?_ bw;have:k.toNat=len a:=by omega
   rwa [this] at h3)
  (by intro s ae hp;obtain⟨a,b,h1,h2,h3⟩:=hg s ae hp;exact⟨a,(b,0),h1,⟨zbA _,by simp,h2⟩,h3⟩)
abbrev onM(f:D->Option D)(c:Int):Obj:= .map 30 f c false
abbrev YN(f:D->Option D)(c:Int):Obj:= .map 50 f c false
abbrev vwB(ng no na np nh nl:Nat):Obj:= .box 120 [.sl 1 0 ng,.sl 2 0 no,.mp 3 0,.sl 4 0 na,.sl 5 0 np,.mp 6 0,.sl 7 0 nh,.sl 8 0 nl]
abbrev vwR(g:List ak)(o:List az)(f:D->Option D)(c:Int)(d:D->Option D)(n:Int)(na np nh nl:Nat)(A P H L:List D):List (Nat×En):=[(0,⟨0,some 0,vwB g.length o.length na np nh nl⟩),(1,⟨0,some 1,qC false g⟩),(2,⟨0,some 2,l0 false o⟩),(3,⟨0,some 3,onM f c⟩),(4,⟨0,none,.arr 50 false A⟩),(5,⟨0,none,.arr 104 false P⟩),(6,⟨0,some 6,YN d n⟩),(7,⟨0,none,.arr 106 false H⟩),(8,⟨0,none,.arr 106 false L⟩)]
abbrev YO(x:ak):Obj:= .box 34 [iD x.s.1,iD x.s.2,iD x.n,.d (.sl 1 (aZ x.deps)),iD x.bY.1,iD x.bY.2,.d (.sl 18 (x.ops.map eI))]
abbrev qgJ(o:aX):Obj:= .box 54 [iD o.kind,iD o.node.1,iD o.node.2.1,iD o.node.2.2,iD o.parent.1,iD o.parent.2.1,iD o.parent.2.2,sD o.name,.d (.bool o.dir),ki o.ca,iD o.after.1,iD o.after.2.1,iD o.after.2.2,iD o.elem.1,iD o.elem.2.1,iD o.elem.2.2,sD o.text,cR o.elems]
abbrev gaH(x:ak)(g:List ak)(o:List az)(f:D->Option D)(c:Int)(d:D->Option D)(n:Int)(na np nh nl:Nat)(A P H L:List D)(on:Bool)(i:Int):S:=⟨117,[(0,.ref 0 0 0),(3,.ref 9 0 0),(4,.d (.bool on)),(14,.d (.sl 18 (x.ops.map eI))),(15,iD ((x.ops.map eI).length:Int)),(16,iD i)],vwR g o f c d n na np nh nl A P H L++[(9,⟨0,none,YO x⟩)]⟩
abbrev qdQ(x:ak)(y:aX)(g:List ak)(o:List az)(f:D->Option D)(c:Int)(d:D->Option D)(n:Int)(na np nh nl:Nat)(A P H L:List D)(on:Bool)(i j:Int):S:=⟨117,[(0,.ref 0 0 0),(3,.ref 9 0 0),(4,.d (.bool on)),(6,.ref 10 0 0),(14,.d (.sl 18 (x.ops.map eI))),(15,iD ((x.ops.map eI).length:Int)),(16,iD i),(95,ki y.ca),(96,iD ((y.ca.map bh).length:Int)),(97,iD j)],vwR g o f c d n na np nh nl A P H L++[(9,⟨0,none,YO x⟩),(10,⟨0,none,qgJ y⟩)]⟩
def rY(i:Int):Nat×P:=(16,P.d (Zt i))
def ix(x:ak):Nat×P:=(15,P.d (D.int .i64 (vV x)))
def iy(x:ak):Nat×P:=(14,oQ x)
def iz(on:Bool):Nat×P:=(4,gh on)
def il:Nat×P:=(3,P.ref 9 0 0)
def TG(nh:Nat)(nl:Nat):List P:=[P.mp 6 0,P.sl 7 0 nh,P.sl 8 0 nl]
def BO:P:=P.mp 3 0
def BP(o:List az):P:=P.sl 2 0 (eu o)
def fI(g:List ak)(o:List az)(na:Nat)(np:Nat)(nh:Nat)(nl:Nat):Nat×En:=(0,En.mk 0 (some 0) (Obj.box (120:TypeId) (tL g::BP o::BO::P.sl 4 0 na::P.sl 5 0 np::TG nh nl)))
def VC(y:aX):En:=En.mk 0 none (Obj.box (54:TypeId) (P.d (vT y)::P.d (ur y)::P.d (uq y)::P.d (uo y)::P.d (zw y)::P.d (zu y)::P.d (zs y)::P.d (D.str (aX.name y))::P.d (D.bool (aX.dir y))::P.d (lq y)::P.d (Aj y)::P.d (Ai y)::P.d (Ah y)::P.d (D.int .i64 (vS y))::P.d (D.int .i64 (vR y))::P.d (D.int .i64 (vQ y))::P.d (D.str (aX.text y))::Rm y))
def se(x:ak)(y:aX):List (Nat×En):=[(9,lu x),(10,VC y)]
def bP(H:List D):En:=En.mk 0 none (Obj.arr (106:TypeId) false H)
def e7(d:D->Option D)(n:Int):Nat×En:=(6,En.mk 0 (some 6) (Obj.map 50 d n false))
def Ed(P:List D):En:=En.mk 0 none (Obj.arr (104:TypeId) false P)
def eU(P:List D):Nat×En:=(5,Ed P)
def Ee(A:List D):En:=En.mk 0 none (Obj.arr (50:TypeId) false A)
def eV(A:List D):Nat×En:=(4,Ee A)
def dL(f:D->Option D)(c:Int):Nat×En:=(3,En.mk 0 (some 3) (Obj.map 30 f c false))
def dM(o:List az):Nat×En:=(2,En.mk 0 (some 2) (Obj.arr (30:TypeId) false (eL o)))
def dN(g:List ak):Nat×En:=(1,En.mk 0 (some 1) (Obj.arr (34:TypeId) false (cW g)))
def sf:Nat×P:=(6,P.ref 10 0 0)
def Z9E(on:Bool)(x:ak)(i:Int)(y:aX)(j:Int):List (Nat×P):=[eY,il,iz on,sf,iy x,ix x,rY i,(95,P.d (lq y)),(96,P.d (D.int .i64 (nj y))),(97,P.d (Zn j))]
def Z9v(y:aX)(j:Int):D:=D.nth (List.map bh (aX.ca y)) (Zg j)
def VD(y:aX)(j:Int):List D:=[D.agg [ur y,uq y,uo y,D.int .i64 (D.aj (D.ar (Z9v y j) 0)),D.int .i64 (D.aj (D.ar (Z9v y j) 1))]]
def y9(nl:Nat)(L:List D):Bool:=Nat.ble nl (List.length L)
theorem TH(x:ak)(y:aX)(g:List ak)(o:List az)(f:D->Option D)(c:Int)(d:D->Option D)(n:Int)(na np nh nl:Nat)(A P H L:List D)(on:Bool)(i j:Int)(ae:PX×S->Prop):(bif decide (j<nj y) then bif decide ((0:Int)<=j/\j<nj y) then bif cD PR (30:TypeId) (Z9v y j) then bif on then bif y9 nl L&&aM (nl+List.length (VD y j)) 40 then bif Zj j then ae (PX.normal,S.mk 117 (Z9E on x i y j) ((0,En.mk 0 (some 0) (Obj.box (120:TypeId) [tL g,BP o,BO,Pi.P.sl 4 0 na,Pi.P.sl 5 0 np,Pi.P.mp 6 0,Pi.P.sl 7 0 nh,Pi.P.sl 8 0 (nl+List.length (VD y j))]))::dN g::dM o::dL f c::eV A::eU P::e7 d n::(7,bP H)::(8,En.mk 0 none (Obj.arr (106:TypeId) false (List.take nl L++VD y j)))::se x y)) else False else False else bif Zj j then ae (PX.normal,S.mk 117 (Z9E on x i y j) (fI g o na np nh nl::dN g::dM o::dL f c::eV A::eU P::e7 d n::(7,bP H)::(8,bP L)::se x y)) else False else False else False else ae (PX.exit 2,S.mk 117 [eY,il,iz on,iy x,ix x,rY i] [fI g o na np nh nl,dN g,dM o,dL f c,eV A,eU P,e7 d n,(7,bP H),(8,bP L),(9,lu x)]))=(eZ [] [] [] 95 13 (qdQ x y g o f c d n na np nh nl A P H L on i j)) ae:=by kernel_rfl
def GH(y:aX):List bf:=y.ca.map λs=>(y.node,s)
def cS(on:Bool)(y:aX)(_:Nat)(L:List D)(bt:Nat)(L':List D):Prop:=bt=L'.length/\L'=L++(if on=true then(GH y).map jv else [])
def TI:S->K (PX×S):=λs ae=> ∃x y g o f c d n na np nh nl A P H L on i,s.lz [4,5,7,8]=qdQ x y g o f c d n na np nh nl A P H L on i 0/\(y.ca.length<=200/\nl=L.length/\nl<=100000000000)/\ ∀bt L',cS on y nl L bt L'->ae (.exit 2,gaH x g o f c d n na np nh bt A P H L' on i)
def YP(H:List D)(L:List D):List (Nat×En):=[(7,bP H),(8,bP L)]
def Z9X(x:ak)(i:Int):List D:=[D.agg [Rp x i,Ro x i,Rn x i,gQ x,gO x]]
def Za0(nh:Nat)(x:ak)(i:Int)(nl:Nat):List P:=[P.mp 6 0,P.sl 7 0 (nh+List.length (Z9X x i)),P.sl 8 0 nl]
def Za9(g:List ak)(o:List az)(na:Nat)(np:Nat)(nh:Nat)(x:ak)(i:Int)(nl:Nat):Nat×En:=(0,En.mk 0 (some 0) (Obj.box (120:TypeId) (tL g::BP o::BO::P.sl 4 0 na::P.sl 5 0 np::Za0 nh x i nl)))
def DJ(L:List D)(x:ak)(i:Int):List (Nat×En):=[(8,bP L),(9,lu x),(10,En.mk 0 none (Obj.box (54:TypeId) [P.d (D.int .i64 (D.aj (D.ar (jC x i) 0))),P.d (Rp x i),P.d (Ro x i),P.d (Rn x i),P.d (Xx x i),P.d (Xw x i),P.d (Xv x i),P.d (D.str (D.eJ (D.ar (jC x i) 7))),P.d (D.bool (D.e9 (D.ar (jC x i) 8))),P.d (D.sl 2 (D.fa (D.ar (jC x i) 9))),P.d (D.int .i64 (D.aj (D.ar (jC x i) 10))),P.d (D.int .i64 (D.aj (D.ar (jC x i) 11))),P.d (D.int .i64 (D.aj (D.ar (jC x i) 12))),P.d (D.int .i64 (D.aj (D.ar (jC x i) 13))),P.d (D.int .i64 (D.aj (D.ar (jC x i) 14))),P.d (D.int .i64 (D.aj (D.ar (jC x i) 15))),P.d (D.str (D.eJ (D.ar (jC x i) 16))),P.d (D.sl 3 (D.fa (D.ar (jC x i) 17)))]))]
def YQ(x:ak)(i:Int):List D:=[D.agg [Rp x i,Ro x i,Rn x i,Xx x i,Xw x i,Xv x i,D.str (D.eJ (D.ar (jC x i) 7)),D.bool (D.e9 (D.ar (jC x i) 8))]]
def Z9U(na:Nat)(x:ak)(i:Int):Nat:=na+List.length [D.agg (gQ x::gO x::ZE i)]
def VE(g:List ak)(o:List az)(na:Nat)(x:ak)(i:Int)(np:Nat)(nh:Nat)(nl:Nat):Nat×En:=(0,En.mk 0 (some 0) (Obj.box (120:TypeId) (tL g::BP o::BO::P.sl 4 0 (Z9U na x i)::P.sl 5 0 (np+List.length (YQ x i))::TG nh nl)))
def q9(y:aX)(aU:Nat)(cg:List D):Prop:=List.length (aX.ca y)<=200/\aU=List.length cg/\aU<=100000000000
def VF(nh:Nat)(H:List D)(x:ak)(i:Int)(L:List D):List (Nat×En):=(7,En.mk 0 none (Obj.arr (106:TypeId) false (List.take nh H++Z9X x i)))::DJ L x i
def Ly(x:ak)(i:Int)(d:D->Option D)(n:Int):Nat×En:=(6,En.mk 0 (some 6) (Obj.map 50 (λ(k':D)=>bif D.ob (D.agg [D.int .i64 (D.aj (D.ar (jC x i) (0+1))),D.int .i64 (D.aj (D.ar (jC x i) (0+1+1))),D.int .i64 (D.aj (D.ar (jC x i) Z5T))]) k' then some (D.bool (D.e9 (D.ar (jC x i) (Z5T+1+1+1+1+1)))) else d k') (bif Option.isSome (d (D.agg [Rp x i,Ro x i,Rn x i])) then n else n+(1:Int)) false))
def Lz(np:Nat)(P:List D)(x:ak)(i:Int):Nat×En:=(5,En.mk 0 none (Obj.arr (104:TypeId) false (List.take np P++YQ x i)))
def LA(na:Nat)(A:List D)(x:ak)(i:Int):Nat×En:=(4,En.mk 0 none (Obj.arr (50:TypeId) false (List.take na A++[D.agg (gQ x::gO x::ZE i)])))
def Za1(g:List ak)(o:List az)(na:Nat)(x:ak)(i:Int)(np:Nat)(nh:Nat)(nl:Nat):Nat×En:=(0,En.mk 0 (some 0) (Obj.box (120:TypeId) (tL g::BP o::BO::P.sl 4 0 (Z9U na x i)::P.sl 5 0 (np+List.length (YQ x i))::Za0 nh x i nl)))
def vE(on:Bool)(x:ak)(i:Int):List (Nat×P):=[eY,il,iz on,sf,iy x,ix x,rY i,(95,P.d (D.sl 2 (D.fa (D.ar (jC x i) 9)))),(96,P.d (D.int .i64 (↑(List.length (D.fa (D.ar (jC x i) 9))):Int))),(97,P.d Z7)]
def VG(nh:Nat)(H:List D)(x:ak)(i:Int):Bool:=y9 nh H&&aM (nh+List.length (Z9X x i)) 40
def VH(x:ak)(i:Int):Bool:=D.aj (D.ar (jC x i) 0) !=(2:Int)
theorem qbd(x:ak)(g:List ak)(o:List az)(f:D->Option D)(c:Int)(d:D->Option D)(n:Int)(na np nh nl:Nat)(A P H L:List D)(on:Bool)(i:Int)(ae:PX×S->Prop):(bif Rq i x then bif Oy i x then bif Ox x i then bif D.aj (D.ar (jC x i) 0)==(0:Int) then bif D.aj (D.ar (jC x i) 0)==(0:Int) then bif y9 na A&&aM (Z9U na x i) 24 then bif y9 np P&&aM (np+List.length (YQ x i)) 72 then bif on then bif VH x i then bif VG nh H x i then∃(aJ:ak) (y:aX) (aQ:List ak) (aP:List az) (dK:D->Option D) (dU:Int) (eO:D->Option D) (cH:Int) (bk:Nat) (bm:Nat) (bn:Nat) (aU:Nat) (dm:List D) (dn:List D) (dp:List D) (cg:List D) (aN:Bool) (aH:Int),S.mk 117 (vE on x i) (Za1 g o na x i np nh nl::dN g::dM o::dL f c::LA na A x i::Lz np P x i::Ly x i d n::VF nh H x i L)=S.mk 117 [eY,il,iz aN,sf,iy aJ,ix aJ,rY aH,(95,Pi.P.d (lq y)),(96,Pi.P.d (D.int .i64 (nj y))),(97,Pi.P.d Z7)] (fI aQ aP bk bm bn aU::dN aQ::dM aP::dL dK dU::eV dm::eU dn::e7 eO cH::(7,bP dp)::(8,bP cg)::se aJ y)/\q9 y aU cg/\ ∀(bt:Nat) (L':List D),cS aN y aU cg bt L'->bif Zj aH then ae (PX.normal,S.mk 117 [eY,il,iz aN,iy aJ,ix aJ,(16,Pi.P.d (Zn aH))] [fI aQ aP bk bm bn bt,dN aQ,dM aP,dL dK dU,eV dm,eU dn,e7 eO cH,(7,bP dp),(8,bP L'),(9,lu aJ)]) else False else False else∃(aJ:ak) (y:aX) (aQ:List ak) (aP:List az) (dK:D->Option D) (dU:Int) (eO:D->Option D) (cH:Int) (bk:Nat) (bm:Nat) (bn:Nat) (aU:Nat) (dm:List D) (dn:List D) (dp:List D) (cg:List D) (aN:Bool) (aH:Int),S.mk 117 (vE on x i) (VE g o na x i np nh nl::dN g::dM o::dL f c::LA na A x i::Lz np P x i::Ly x i d n::(7,bP H)::DJ L x i)=S.mk 117 [eY,il,iz aN,sf,iy aJ,ix aJ,rY aH,(95,Pi.P.d (lq y)),(96,Pi.P.d (D.int .i64 (nj y))),(97,Pi.P.d Z7)] (fI aQ aP bk bm bn aU::dN aQ::dM aP::dL dK dU::eV dm::eU dn::e7 eO cH::(7,bP dp)::(8,bP cg)::se aJ y)/\q9 y aU cg/\ ∀(bt:Nat) (L':List D),cS aN y aU cg bt L'->bif Zj aH then ae (PX.normal,S.mk 117 [eY,il,iz aN,iy aJ,ix aJ,(16,Pi.P.d (Zn aH))] [fI aQ aP bk bm bn bt,dN aQ,dM aP,dL dK dU,eV dm,eU dn,e7 eO cH,(7,bP dp),(8,bP L'),(9,lu aJ)]) else False else∃(aJ:ak) (y:aX) (aQ:List ak) (aP:List az) (dK:D->Option D) (dU:Int) (eO:D->Option D) (cH:Int) (bk:Nat) (bm:Nat) (bn:Nat) (aU:Nat) (dm:List D) (dn:List D) (dp:List D) (cg:List D) (aN:Bool) (aH:Int),S.mk 117 (vE on x i) (VE g o na x i np nh nl::dN g::dM o::dL f c::LA na A x i::Lz np P x i::Ly x i d n::(7,bP H)::DJ L x i)=S.mk 117 [eY,il,iz aN,sf,iy aJ,ix aJ,rY aH,(95,Pi.P.d (lq y)),(96,Pi.P.d (D.int .i64 (nj y))),(97,Pi.P.d Z7)] (fI aQ aP bk bm bn aU::dN aQ::dM aP::dL dK dU::eV dm::eU dn::e7 eO cH::(7,bP dp)::(8,bP cg)::se aJ y)/\q9 y aU cg/\ ∀(bt:Nat) (L':List D),cS aN y aU cg bt L'->bif Zj aH then ae (PX.normal,S.mk 117 [eY,il,iz aN,iy aJ,ix aJ,(16,Pi.P.d (Zn aH))] [fI aQ aP bk bm bn bt,dN aQ,dM aP,dL dK dU,eV dm,eU dn,e7 eO cH,(7,bP dp),(8,bP L'),(9,lu aJ)]) else False else False else False else bif D.aj (D.ar (jC x i) 0)==(1:Int) then bif on then bif y9 na A&&aM (Z9U na x i) 24 then bif y9 np P&&aM (np+List.length (YQ x i)) 72 then bif on then bif VH x i then bif VG nh H x i then∃(aJ:ak) (y:aX) (aQ:List ak) (aP:List az) (dK:D->Option D) (dU:Int) (eO:D->Option D) (cH:Int) (bk:Nat) (bm:Nat) (bn:Nat) (aU:Nat) (dm:List D) (dn:List D) (dp:List D) (cg:List D) (aN:Bool) (aH:Int),S.mk 117 (vE on x i) (Za1 g o na x i np nh nl::dN g::dM o::dL f c::LA na A x i::Lz np P x i::Ly x i d n::VF nh H x i L)=S.mk 117 [eY,il,iz aN,sf,iy aJ,ix aJ,rY aH,(95,Pi.P.d (lq y)),(96,Pi.P.d (D.int .i64 (nj y))),(97,Pi.P.d Z7)] (fI aQ aP bk bm bn aU::dN aQ::dM aP::dL dK dU::eV dm::eU dn::e7 eO cH::(7,bP dp)::(8,bP cg)::se aJ y)/\q9 y aU cg/\ ∀(bt:Nat) (L':List D),cS aN y aU cg bt L'->bif Zj aH then ae (PX.normal,S.mk 117 [eY,il,iz aN,iy aJ,ix aJ,(16,Pi.P.d (Zn aH))] [fI aQ aP bk bm bn bt,dN aQ,dM aP,dL dK dU,eV dm,eU dn,e7 eO cH,(7,bP dp),(8,bP L'),(9,lu aJ)]) else False else False else∃(aJ:ak) (y:aX) (aQ:List ak) (aP:List az) (dK:D->Option D) (dU:Int) (eO:D->Option D) (cH:Int) (bk:Nat) (bm:Nat) (bn:Nat) (aU:Nat) (dm:List D) (dn:List D) (dp:List D) (cg:List D) (aN:Bool) (aH:Int),S.mk 117 (vE on x i) (VE g o na x i np nh nl::dN g::dM o::dL f c::LA na A x i::Lz np P x i::Ly x i d n::(7,bP H)::DJ L x i)=S.mk 117 [eY,il,iz aN,sf,iy aJ,ix aJ,rY aH,(95,Pi.P.d (lq y)),(96,Pi.P.d (D.int .i64 (nj y))),(97,Pi.P.d Z7)] (fI aQ aP bk bm bn aU::dN aQ::dM aP::dL dK dU::eV dm::eU dn::e7 eO cH::(7,bP dp)::(8,bP cg)::se aJ y)/\q9 y aU cg/\ ∀(bt:Nat) (L':List D),cS aN y aU cg bt L'->bif Zj aH then ae (PX.normal,S.mk 117 [eY,il,iz aN,iy aJ,ix aJ,(16,Pi.P.d (Zn aH))] [fI aQ aP bk bm bn bt,dN aQ,dM aP,dL dK dU,eV dm,eU dn,e7 eO cH,(7,bP dp),(8,bP L'),(9,lu aJ)]) else False else∃(aJ:ak) (y:aX) (aQ:List ak) (aP:List az) (dK:D->Option D) (dU:Int) (eO:D->Option D) (cH:Int) (bk:Nat) (bm:Nat) (bn:Nat) (aU:Nat) (dm:List D) (dn:List D) (dp:List D) (cg:List D) (aN:Bool) (aH:Int),S.mk 117 (vE on x i) (VE g o na x i np nh nl::dN g::dM o::dL f c::LA na A x i::Lz np P x i::Ly x i d n::(7,bP H)::DJ L x i)=S.mk 117 [eY,il,iz aN,sf,iy aJ,ix aJ,rY aH,(95,Pi.P.d (lq y)),(96,Pi.P.d (D.int .i64 (nj y))),(97,Pi.P.d Z7)] (fI aQ aP bk bm bn aU::dN aQ::dM aP::dL dK dU::eV dm::eU dn::e7 eO cH::(7,bP dp)::(8,bP cg)::se aJ y)/\q9 y aU cg/\ ∀(bt:Nat) (L':List D),cS aN y aU cg bt L'->bif Zj aH then ae (PX.normal,S.mk 117 [eY,il,iz aN,iy aJ,ix aJ,(16,Pi.P.d (Zn aH))] [fI aQ aP bk bm bn bt,dN aQ,dM aP,dL dK dU,eV dm,eU dn,e7 eO cH,(7,bP dp),(8,bP L'),(9,lu aJ)]) else False else False else False else bif on then bif VH x i then bif VG nh H x i then∃(aJ:ak) (y:aX) (aQ:List ak) (aP:List az) (dK:D->Option D) (dU:Int) (eO:D->Option D) (cH:Int) (bk:Nat) (bm:Nat) (bn:Nat) (aU:Nat) (dm:List D) (dn:List D) (dp:List D) (cg:List D) (aN:Bool) (aH:Int),S.mk 117 (vE on x i) (Za9 g o na np nh x i nl::dN g::dM o::dL f c::eV A::eU P::Ly x i d n::VF nh H x i L)=S.mk 117 [eY,il,iz aN,sf,iy aJ,ix aJ,rY aH,(95,Pi.P.d (lq y)),(96,Pi.P.d (D.int .i64 (nj y))),(97,Pi.P.d Z7)] (fI aQ aP bk bm bn aU::dN aQ::dM aP::dL dK dU::eV dm::eU dn::e7 eO cH::(7,bP dp)::(8,bP cg)::se aJ y)/\q9 y aU cg/\ ∀(bt:Nat) (L':List D),cS aN y aU cg bt L'->bif Zj aH then ae (PX.normal,S.mk 117 [eY,il,iz aN,iy aJ,ix aJ,(16,Pi.P.d (Zn aH))] [fI aQ aP bk bm bn bt,dN aQ,dM aP,dL dK dU,eV dm,eU dn,e7 eO cH,(7,bP dp),(8,bP L'),(9,lu aJ)]) else False else False else∃(aJ:ak) (y:aX) (aQ:List ak) (aP:List az) (dK:D->Option D) (dU:Int) (eO:D->Option D) (cH:Int) (bk:Nat) (bm:Nat) (bn:Nat) (aU:Nat) (dm:List D) (dn:List D) (dp:List D) (cg:List D) (aN:Bool) (aH:Int),S.mk 117 (vE on x i) (fI g o na np nh nl::dN g::dM o::dL f c::eV A::eU P::Ly x i d n::(7,bP H)::DJ L x i)=S.mk 117 [eY,il,iz aN,sf,iy aJ,ix aJ,rY aH,(95,Pi.P.d (lq y)),(96,Pi.P.d (D.int .i64 (nj y))),(97,Pi.P.d Z7)] (fI aQ aP bk bm bn aU::dN aQ::dM aP::dL dK dU::eV dm::eU dn::e7 eO cH::(7,bP dp)::(8,bP cg)::se aJ y)/\q9 y aU cg/\ ∀(bt:Nat) (L':List D),cS aN y aU cg bt L'->bif Zj aH then ae (PX.normal,S.mk 117 [eY,il,iz aN,iy aJ,ix aJ,(16,Pi.P.d (Zn aH))] [fI aQ aP bk bm bn bt,dN aQ,dM aP,dL dK dU,eV dm,eU dn,e7 eO cH,(7,bP dp),(8,bP L'),(9,lu aJ)]) else False else∃(aJ:ak) (y:aX) (aQ:List ak) (aP:List az) (dK:D->Option D) (dU:Int) (eO:D->Option D) (cH:Int) (bk:Nat) (bm:Nat) (bn:Nat) (aU:Nat) (dm:List D) (dn:List D) (dp:List D) (cg:List D) (aN:Bool) (aH:Int),S.mk 117 (vE on x i) (fI g o na np nh nl::dN g::dM o::dL f c::eV A::eU P::Ly x i d n::(7,bP H)::DJ L x i)=S.mk 117 [eY,il,iz aN,sf,iy aJ,ix aJ,rY aH,(95,Pi.P.d (lq y)),(96,Pi.P.d (D.int .i64 (nj y))),(97,Pi.P.d Z7)] (fI aQ aP bk bm bn aU::dN aQ::dM aP::dL dK dU::eV dm::eU dn::e7 eO cH::(7,bP dp)::(8,bP cg)::se aJ y)/\q9 y aU cg/\ ∀(bt:Nat) (L':List D),cS aN y aU cg bt L'->bif Zj aH then ae (PX.normal,S.mk 117 [eY,il,iz aN,iy aJ,ix aJ,(16,Pi.P.d (Zn aH))] [fI aQ aP bk bm bn bt,dN aQ,dM aP,dL dK dU,eV dm,eU dn,e7 eO cH,(7,bP dp),(8,bP L'),(9,lu aJ)]) else False else bif on then bif VH x i then bif VG nh H x i then∃(aJ:ak) (y:aX) (aQ:List ak) (aP:List az) (dK:D->Option D) (dU:Int) (eO:D->Option D) (cH:Int) (bk:Nat) (bm:Nat) (bn:Nat) (aU:Nat) (dm:List D) (dn:List D) (dp:List D) (cg:List D) (aN:Bool) (aH:Int),S.mk 117 (vE on x i) (Za9 g o na np nh x i nl::dN g::dM o::dL f c::eV A::eU P::Ly x i d n::VF nh H x i L)=S.mk 117 [eY,il,iz aN,sf,iy aJ,ix aJ,rY aH,(95,Pi.P.d (lq y)),(96,Pi.P.d (D.int .i64 (nj y))),(97,Pi.P.d Z7)] (fI aQ aP bk bm bn aU::dN aQ::dM aP::dL dK dU::eV dm::eU dn::e7 eO cH::(7,bP dp)::(8,bP cg)::se aJ y)/\q9 y aU cg/\ ∀(bt:Nat) (L':List D),cS aN y aU cg bt L'->bif Zj aH then ae (PX.normal,S.mk 117 [eY,il,iz aN,iy aJ,ix aJ,(16,Pi.P.d (Zn aH))] [fI aQ aP bk bm bn bt,dN aQ,dM aP,dL dK dU,eV dm,eU dn,e7 eO cH,(7,bP dp),(8,bP L'),(9,lu aJ)]) else False else False else∃(aJ:ak) (y:aX) (aQ:List ak) (aP:List az) (dK:D->Option D) (dU:Int) (eO:D->Option D) (cH:Int) (bk:Nat) (bm:Nat) (bn:Nat) (aU:Nat) (dm:List D) (dn:List D) (dp:List D) (cg:List D) (aN:Bool) (aH:Int),S.mk 117 (vE on x i) (fI g o na np nh nl::dN g::dM o::dL f c::eV A::eU P::Ly x i d n::(7,bP H)::DJ L x i)=S.mk 117 [eY,il,iz aN,sf,iy aJ,ix aJ,rY aH,(95,Pi.P.d (lq y)),(96,Pi.P.d (D.int .i64 (nj y))),(97,Pi.P.d Z7)] (fI aQ aP bk bm bn aU::dN aQ::dM aP::dL dK dU::eV dm::eU dn::e7 eO cH::(7,bP dp)::(8,bP cg)::se aJ y)/\q9 y aU cg/\ ∀(bt:Nat) (L':List D),cS aN y aU cg bt L'->bif Zj aH then ae (PX.normal,S.mk 117 [eY,il,iz aN,iy aJ,ix aJ,(16,Pi.P.d (Zn aH))] [fI aQ aP bk bm bn bt,dN aQ,dM aP,dL dK dU,eV dm,eU dn,e7 eO cH,(7,bP dp),(8,bP L'),(9,lu aJ)]) else False else∃(aJ:ak) (y:aX) (aQ:List ak) (aP:List az) (dK:D->Option D) (dU:Int) (eO:D->Option D) (cH:Int) (bk:Nat) (bm:Nat) (bn:Nat) (aU:Nat) (dm:List D) (dn:List D) (dp:List D) (cg:List D) (aN:Bool) (aH:Int),S.mk 117 (vE on x i) (fI g o na np nh nl::dN g::dM o::dL f c::eV A::eU P::Ly x i d n::(7,bP H)::DJ L x i)=S.mk 117 [eY,il,iz aN,sf,iy aJ,ix aJ,rY aH,(95,Pi.P.d (lq y)),(96,Pi.P.d (D.int .i64 (nj y))),(97,Pi.P.d Z7)] (fI aQ aP bk bm bn aU::dN aQ::dM aP::dL dK dU::eV dm::eU dn::e7 eO cH::(7,bP dp)::(8,bP cg)::se aJ y)/\q9 y aU cg/\ ∀(bt:Nat) (L':List D),cS aN y aU cg bt L'->bif Zj aH then ae (PX.normal,S.mk 117 [eY,il,iz aN,iy aJ,ix aJ,(16,Pi.P.d (Zn aH))] [fI aQ aP bk bm bn bt,dN aQ,dM aP,dL dK dU,eV dm,eU dn,e7 eO cH,(7,bP dp),(8,bP L'),(9,lu aJ)]) else False else bif D.aj (D.ar (jC x i) 0)==(0:Int) then bif y9 na A&&aM (Z9U na x i) 24 then bif y9 np P&&aM (np+List.length (YQ x i)) 72 then bif on then bif VH x i then bif VG nh H x i then∃(aJ:ak) (y:aX) (aQ:List ak) (aP:List az) (dK:D->Option D) (dU:Int) (eO:D->Option D) (cH:Int) (bk:Nat) (bm:Nat) (bn:Nat) (aU:Nat) (dm:List D) (dn:List D) (dp:List D) (cg:List D) (aN:Bool) (aH:Int),S.mk 117 (vE on x i) (Za1 g o na x i np nh nl::dN g::dM o::dL f c::LA na A x i::Lz np P x i::e7 d n::VF nh H x i L)=S.mk 117 [eY,il,iz aN,sf,iy aJ,ix aJ,rY aH,(95,Pi.P.d (lq y)),(96,Pi.P.d (D.int .i64 (nj y))),(97,Pi.P.d Z7)] (fI aQ aP bk bm bn aU::dN aQ::dM aP::dL dK dU::eV dm::eU dn::e7 eO cH::(7,bP dp)::(8,bP cg)::se aJ y)/\q9 y aU cg/\ ∀(bt:Nat) (L':List D),cS aN y aU cg bt L'->bif Zj aH then ae (PX.normal,S.mk 117 [eY,il,iz aN,iy aJ,ix aJ,(16,Pi.P.d (Zn aH))] [fI aQ aP bk bm bn bt,dN aQ,dM aP,dL dK dU,eV dm,eU dn,e7 eO cH,(7,bP dp),(8,bP L'),(9,lu aJ)]) else False else False else∃(aJ:ak) (y:aX) (aQ:List ak) (aP:List az) (dK:D->Option D) (dU:Int) (eO:D->Option D) (cH:Int) (bk:Nat) (bm:Nat) (bn:Nat) (aU:Nat) (dm:List D) (dn:List D) (dp:List D) (cg:List D) (aN:Bool) (aH:Int),S.mk 117 (vE on x i) (VE g o na x i np nh nl::dN g::dM o::dL f c::LA na A x i::Lz np P x i::e7 d n::(7,bP H)::DJ L x i)=S.mk 117 [eY,il,iz aN,sf,iy aJ,ix aJ,rY aH,(95,Pi.P.d (lq y)),(96,Pi.P.d (D.int .i64 (nj y))),(97,Pi.P.d Z7)] (fI aQ aP bk bm bn aU::dN aQ::dM aP::dL dK dU::eV dm::eU dn::e7 eO cH::(7,bP dp)::(8,bP cg)::se aJ y)/\q9 y aU cg/\ ∀(bt:Nat) (L':List D),cS aN y aU cg bt L'->bif Zj aH then ae (PX.normal,S.mk 117 [eY,il,iz aN,iy aJ,ix aJ,(16,Pi.P.d (Zn aH))] [fI aQ aP bk bm bn bt,dN aQ,dM aP,dL dK dU,eV dm,eU dn,e7 eO cH,(7,bP dp),(8,bP L'),(9,lu aJ)]) else False else∃(aJ:ak) (y:aX) (aQ:List ak) (aP:List az) (dK:D->Option D) (dU:Int) (eO:D->Option D) (cH:Int) (bk:Nat) (bm:Nat) (bn:Nat) (aU:Nat) (dm:List D) (dn:List D) (dp:List D) (cg:List D) (aN:Bool) (aH:Int),S.mk 117 (vE on x i) (VE g o na x i np nh nl::dN g::dM o::dL f c::LA na A x i::Lz np P x i::e7 d n::(7,bP H)::DJ L x i)=S.mk 117 [eY,il,iz aN,sf,iy aJ,ix aJ,rY aH,(95,Pi.P.d (lq y)),(96,Pi.P.d (D.int .i64 (nj y))),(97,Pi.P.d Z7)] (fI aQ aP bk bm bn aU::dN aQ::dM aP::dL dK dU::eV dm::eU dn::e7 eO cH::(7,bP dp)::(8,bP cg)::se aJ y)/\q9 y aU cg/\ ∀(bt:Nat) (L':List D),cS aN y aU cg bt L'->bif Zj aH then ae (PX.normal,S.mk 117 [eY,il,iz aN,iy aJ,ix aJ,(16,Pi.P.d (Zn aH))] [fI aQ aP bk bm bn bt,dN aQ,dM aP,dL dK dU,eV dm,eU dn,e7 eO cH,(7,bP dp),(8,bP L'),(9,lu aJ)]) else False else False else False else bif D.aj (D.ar (jC x i) 0)==(1:Int) then bif on then bif y9 na A&&aM (Z9U na x i) 24 then bif y9 np P&&aM (np+List.length (YQ x i)) 72 then bif on then bif VH x i then bif VG nh H x i then∃(aJ:ak) (y:aX) (aQ:List ak) (aP:List az) (dK:D->Option D) (dU:Int) (eO:D->Option D) (cH:Int) (bk:Nat) (bm:Nat) (bn:Nat) (aU:Nat) (dm:List D) (dn:List D) (dp:List D) (cg:List D) (aN:Bool) (aH:Int),S.mk 117 (vE on x i) (Za1 g o na x i np nh nl::dN g::dM o::dL f c::LA na A x i::Lz np P x i::e7 d n::VF nh H x i L)=S.mk 117 [eY,il,iz aN,sf,iy aJ,ix aJ,rY aH,(95,Pi.P.d (lq y)),(96,Pi.P.d (D.int .i64 (nj y))),(97,Pi.P.d Z7)] (fI aQ aP bk bm bn aU::dN aQ::dM aP::dL dK dU::eV dm::eU dn::e7 eO cH::(7,bP dp)::(8,bP cg)::se aJ y)/\q9 y aU cg/\ ∀(bt:Nat) (L':List D),cS aN y aU cg bt L'->bif Zj aH then ae (PX.normal,S.mk 117 [eY,il,iz aN,iy aJ,ix aJ,(16,Pi.P.d (Zn aH))] [fI aQ aP bk bm bn bt,dN aQ,dM aP,dL dK dU,eV dm,eU dn,e7 eO cH,(7,bP dp),(8,bP L'),(9,lu aJ)]) else False else False else∃(aJ:ak) (y:aX) (aQ:List ak) (aP:List az) (dK:D->Option D) (dU:Int) (eO:D->Option D) (cH:Int) (bk:Nat) (bm:Nat) (bn:Nat) (aU:Nat) (dm:List D) (dn:List D) (dp:List D) (cg:List D) (aN:Bool) (aH:Int),S.mk 117 (vE on x i) (VE g o na x i np nh nl::dN g::dM o::dL f c::LA na A x i::Lz np P x i::e7 d n::(7,bP H)::DJ L x i)=S.mk 117 [eY,il,iz aN,sf,iy aJ,ix aJ,rY aH,(95,Pi.P.d (lq y)),(96,Pi.P.d (D.int .i64 (nj y))),(97,Pi.P.d Z7)] (fI aQ aP bk bm bn aU::dN aQ::dM aP::dL dK dU::eV dm::eU dn::e7 eO cH::(7,bP dp)::(8,bP cg)::se aJ y)/\q9 y aU cg/\ ∀(bt:Nat) (L':List D),cS aN y aU cg bt L'->bif Zj aH then ae (PX.normal,S.mk 117 [eY,il,iz aN,iy aJ,ix aJ,(16,Pi.P.d (Zn aH))] [fI aQ aP bk bm bn bt,dN aQ,dM aP,dL dK dU,eV dm,eU dn,e7 eO cH,(7,bP dp),(8,bP L'),(9,lu aJ)]) else False else∃(aJ:ak) (y:aX) (aQ:List ak) (aP:List az) (dK:D->Option D) (dU:Int) (eO:D->Option D) (cH:Int) (bk:Nat) (bm:Nat) (bn:Nat) (aU:Nat) (dm:List D) (dn:List D) (dp:List D) (cg:List D) (aN:Bool) (aH:Int),S.mk 117 (vE on x i) (VE g o na x i np nh nl::dN g::dM o::dL f c::LA na A x i::Lz np P x i::e7 d n::(7,bP H)::DJ L x i)=S.mk 117 [eY,il,iz aN,sf,iy aJ,ix aJ,rY aH,(95,Pi.P.d (lq y)),(96,Pi.P.d (D.int .i64 (nj y))),(97,Pi.P.d Z7)] (fI aQ aP bk bm bn aU::dN aQ::dM aP::dL dK dU::eV dm::eU dn::e7 eO cH::(7,bP dp)::(8,bP cg)::se aJ y)/\q9 y aU cg/\ ∀(bt:Nat) (L':List D),cS aN y aU cg bt L'->bif Zj aH then ae (PX.normal,S.mk 117 [eY,il,iz aN,iy aJ,ix aJ,(16,Pi.P.d (Zn aH))] [fI aQ aP bk bm bn bt,dN aQ,dM aP,dL dK dU,eV dm,eU dn,e7 eO cH,(7,bP dp),(8,bP L'),(9,lu aJ)]) else False else False else False else bif on then bif VH x i then bif VG nh H x i then∃(aJ:ak) (y:aX) (aQ:List ak) (aP:List az) (dK:D->Option D) (dU:Int) (eO:D->Option D) (cH:Int) (bk:Nat) (bm:Nat) (bn:Nat) (aU:Nat) (dm:List D) (dn:List D) (dp:List D) (cg:List D) (aN:Bool) (aH:Int),S.mk 117 (vE on x i) (Za9 g o na np nh x i nl::dN g::dM o::dL f c::eV A::eU P::e7 d n::VF nh H x i L)=S.mk 117 [eY,il,iz aN,sf,iy aJ,ix aJ,rY aH,(95,Pi.P.d (lq y)),(96,Pi.P.d (D.int .i64 (nj y))),(97,Pi.P.d Z7)] (fI aQ aP bk bm bn aU::dN aQ::dM aP::dL dK dU::eV dm::eU dn::e7 eO cH::(7,bP dp)::(8,bP cg)::se aJ y)/\q9 y aU cg/\ ∀(bt:Nat) (L':List D),cS aN y aU cg bt L'->bif Zj aH then ae (PX.normal,S.mk 117 [eY,il,iz aN,iy aJ,ix aJ,(16,Pi.P.d (Zn aH))] [fI aQ aP bk bm bn bt,dN aQ,dM aP,dL dK dU,eV dm,eU dn,e7 eO cH,(7,bP dp),(8,bP L'),(9,lu aJ)]) else False else False else∃(aJ:ak) (y:aX) (aQ:List ak) (aP:List az) (dK:D->Option D) (dU:Int) (eO:D->Option D) (cH:Int) (bk:Nat) (bm:Nat) (bn:Nat) (aU:Nat) (dm:List D) (dn:List D) (dp:List D) (cg:List D) (aN:Bool) (aH:Int),S.mk 117 (vE on x i) (fI g o na np nh nl::dN g::dM o::dL f c::eV A::eU P::e7 d n::(7,bP H)::DJ L x i)=S.mk 117 [eY,il,iz aN,sf,iy aJ,ix aJ,rY aH,(95,Pi.P.d (lq y)),(96,Pi.P.d (D.int .i64 (nj y))),(97,Pi.P.d Z7)] (fI aQ aP bk bm bn aU::dN aQ::dM aP::dL dK dU::eV dm::eU dn::e7 eO cH::(7,bP dp)::(8,bP cg)::se aJ y)/\q9 y aU cg/\ ∀(bt:Nat) (L':List D),cS aN y aU cg bt L'->bif Zj aH then ae (PX.normal,S.mk 117 [eY,il,iz aN,iy aJ,ix aJ,(16,Pi.P.d (Zn aH))] [fI aQ aP bk bm bn bt,dN aQ,dM aP,dL dK dU,eV dm,eU dn,e7 eO cH,(7,bP dp),(8,bP L'),(9,lu aJ)]) else False else∃(aJ:ak) (y:aX) (aQ:List ak) (aP:List az) (dK:D->Option D) (dU:Int) (eO:D->Option D) (cH:Int) (bk:Nat) (bm:Nat) (bn:Nat) (aU:Nat) (dm:List D) (dn:List D) (dp:List D) (cg:List D) (aN:Bool) (aH:Int),S.mk 117 (vE on x i) (fI g o na np nh nl::dN g::dM o::dL f c::eV A::eU P::e7 d n::(7,bP H)::DJ L x i)=S.mk 117 [eY,il,iz aN,sf,iy aJ,ix aJ,rY aH,(95,Pi.P.d (lq y)),(96,Pi.P.d (D.int .i64 (nj y))),(97,Pi.P.d Z7)] (fI aQ aP bk bm bn aU::dN aQ::dM aP::dL dK dU::eV dm::eU dn::e7 eO cH::(7,bP dp)::(8,bP cg)::se aJ y)/\q9 y aU cg/\ ∀(bt:Nat) (L':List D),cS aN y aU cg bt L'->bif Zj aH then ae (PX.normal,S.mk 117 [eY,il,iz aN,iy aJ,ix aJ,(16,Pi.P.d (Zn aH))] [fI aQ aP bk bm bn bt,dN aQ,dM aP,dL dK dU,eV dm,eU dn,e7 eO cH,(7,bP dp),(8,bP L'),(9,lu aJ)]) else False else bif on then bif VH x i then bif VG nh H x i then∃(aJ:ak) (y:aX) (aQ:List ak) (aP:List az) (dK:D->Option D) (dU:Int) (eO:D->Option D) (cH:Int) (bk:Nat) (bm:Nat) (bn:Nat) (aU:Nat) (dm:List D) (dn:List D) (dp:List D) (cg:List D) (aN:Bool) (aH:Int),S.mk 117 (vE on x i) (Za9 g o na np nh x i nl::dN g::dM o::dL f c::eV A::eU P::e7 d n::VF nh H x i L)=S.mk 117 [eY,il,iz aN,sf,iy aJ,ix aJ,rY aH,(95,Pi.P.d (lq y)),(96,Pi.P.d (D.int .i64 (nj y))),(97,Pi.P.d Z7)] (fI aQ aP bk bm bn aU::dN aQ::dM aP::dL dK dU::eV dm::eU dn::e7 eO cH::(7,bP dp)::(8,bP cg)::se aJ y)/\q9 y aU cg/\ ∀(bt:Nat) (L':List D),cS aN y aU cg bt L'->bif Zj aH then ae (PX.normal,S.mk 117 [eY,il,iz aN,iy aJ,ix aJ,(16,Pi.P.d (Zn aH))] [fI aQ aP bk bm bn bt,dN aQ,dM aP,dL dK dU,eV dm,eU dn,e7 eO cH,(7,bP dp),(8,bP L'),(9,lu aJ)]) else False else False else∃(aJ:ak) (y:aX) (aQ:List ak) (aP:List az) (dK:D->Option D) (dU:Int) (eO:D->Option D) (cH:Int) (bk:Nat) (bm:Nat) (bn:Nat) (aU:Nat) (dm:List D) (dn:List D) (dp:List D) (cg:List D) (aN:Bool) (aH:Int),S.mk 117 (vE on x i) (fI g o na np nh nl::dN g::dM o::dL f c::eV A::eU P::e7 d n::(7,bP H)::DJ L x i)=S.mk 117 [eY,il,iz aN,sf,iy aJ,ix aJ,rY aH,(95,Pi.P.d (lq y)),(96,Pi.P.d (D.int .i64 (nj y))),(97,Pi.P.d Z7)] (fI aQ aP bk bm bn aU::dN aQ::dM aP::dL dK dU::eV dm::eU dn::e7 eO cH::(7,bP dp)::(8,bP cg)::se aJ y)/\q9 y aU cg/\ ∀(bt:Nat) (L':List D),cS aN y aU cg bt L'->bif Zj aH then ae (PX.normal,S.mk 117 [eY,il,iz aN,iy aJ,ix aJ,(16,Pi.P.d (Zn aH))] [fI aQ aP bk bm bn bt,dN aQ,dM aP,dL dK dU,eV dm,eU dn,e7 eO cH,(7,bP dp),(8,bP L'),(9,lu aJ)]) else False else∃(aJ:ak) (y:aX) (aQ:List ak) (aP:List az) (dK:D->Option D) (dU:Int) (eO:D->Option D) (cH:Int) (bk:Nat) (bm:Nat) (bn:Nat) (aU:Nat) (dm:List D) (dn:List D) (dp:List D) (cg:List D) (aN:Bool) (aH:Int),S.mk 117 (vE on x i) (fI g o na np nh nl::dN g::dM o::dL f c::eV A::eU P::e7 d n::(7,bP H)::DJ L x i)=S.mk 117 [eY,il,iz aN,sf,iy aJ,ix aJ,rY aH,(95,Pi.P.d (lq y)),(96,Pi.P.d (D.int .i64 (nj y))),(97,Pi.P.d Z7)] (fI aQ aP bk bm bn aU::dN aQ::dM aP::dL dK dU::eV dm::eU dn::e7 eO cH::(7,bP dp)::(8,bP cg)::se aJ y)/\q9 y aU cg/\ ∀(bt:Nat) (L':List D),cS aN y aU cg bt L'->bif Zj aH then ae (PX.normal,S.mk 117 [eY,il,iz aN,iy aJ,ix aJ,(16,Pi.P.d (Zn aH))] [fI aQ aP bk bm bn bt,dN aQ,dM aP,dL dK dU,eV dm,eU dn,e7 eO cH,(7,bP dp),(8,bP L'),(9,lu aJ)]) else False else False else False else ae (PX.exit 0,S.mk 117 [eY] (fI g o na np nh nl::dN g::dM o::dL f c::eV A::eU P::e7 d n::YP H L)))=(eZ [] [] [(13,ah (aO 95 13) TI)] 95 3 (gaH x g o f c d n na np nh nl A P H L on i)) ae:=by kernel_rfl
def qJ(e:av->Option Bool)(y:aX):av->Option Bool:=λz=>if y.kind=0/\y.node=z then some y.dir else e z
def lN(d:D->Option D)(e:av->Option Bool):Prop:= ∀z:av,d (bE z)=(e z).map D.bool
structure ra(t:Tl)(na np nh nl:Nat)(A P H L:List D):Prop where
 na:na=t.a.length
 np:np=t.p.length
 nh:nh=t.h.length
 nl:nl=t.g.length
 a:A=t.a.map bE
 p:P=t.p.map bK
 h:H=t.h.map jv
 l:L=t.g.map jv
abbrev gaE(g:List ak)(o:List az)(f:D->Option D)(c:Int)(d:D->Option D)(n:Int)(na np nh nl:Nat)(A P H L:List D):S:=⟨117,[(0,.ref 0 0 0)],vwR g o f c d n na np nh nl A P H L⟩
def qdR:S->K (PX×S):=λs ae=> ∃x g o f c d n na np nh nl A P H L on t N e,s.lz [4,5,7,8]=gaH x g o f c d n na np nh nl A P H L on 0/\(ra t na np nh nl A P H L/\lN d e/\uz N t/\N<=300000000/\x.ops.length<=200/\ ∀y∈x.ops,y.ca.length<=200)/\
 ∀d' n' oJ oK oL bt A' P' H' L',ra (Gq on x.s x.ops t) oJ oK oL bt A' P' H' L'->lN d' (x.ops.foldl qJ e)->ae (.exit 0,gaE g o f c d' n' oJ oK oL bt A' P' H' L')
abbrev qgK(g:List ak)(o:List az)(f:D->Option D)(c:Int)(d:D->Option D)(n:Int)(na np nh nl:Nat)(A P H L:List D):List (Nat×En):=[(0,⟨0,some 0,vwB g.length o.length na np nh nl⟩),(1,⟨0,some 1,qC false g⟩),(2,⟨0,some 2,l0 false o⟩),(3,⟨0,some 3,onM f c⟩),(4,⟨0,some 4,.arr 50 false A⟩),(5,⟨0,some 5,.arr 104 false P⟩),(6,⟨0,some 6,YN d n⟩),(7,⟨0,some 7,.arr 106 false H⟩),(8,⟨0,some 8,.arr 106 false L⟩)]
def Zab(x:ak):List (Nat×P):=[iy x,ix x,(16,P.d Z7)]
theorem qiH(x:ak)(g:List ak)(o:List az)(f:D->Option D)(c:Int)(d:D->Option D)(n:Int)(na np nh nl:Nat)(A P H L:List D)(ae:Pi.P×List (Nat×En)->Prop):(bif cD PR (167:TypeId) (cF (f (D.agg [gQ x,gO x])) (D.agg [])) then∃(aJ:ak) (aQ:List ak) (aP:List az) (dK:D->Option D) (dU:Int) (eO:D->Option D) (cH:Int) (bk:Nat) (bm:Nat) (bn:Nat) (aU:Nat) (dm:List D) (dn:List D) (dp:List D) (cg:List D) (on:Bool) (t:Tl) (N:Nat) (e:av->Option Bool),S.mk 117 (eY::il::(4,Pi.P.d (D.bool (Option.isSome (f (D.agg [gQ x,gO x])))))::Zab x) [fI g o na np nh nl,dN g,dM o,dL f c,eV A,eU P,e7 d n,(7,bP H),(8,bP L),(9,lu x)]=S.mk 117 (eY::il::iz on::Zab aJ) [fI aQ aP bk bm bn aU,dN aQ,dM aP,dL dK dU,eV dm,eU dn,e7 eO cH,(7,bP dp),(8,bP cg),(9,lu aJ)]/\(ra t bk bm bn aU dm dn dp cg/\lN eO e/\uz N t/\N<=300000000/\Z4f aJ/\ ∀(y:aX),y∈ak.ops aJ->List.length (aX.ca y)<=200)/\ ∀(d':D->Option D) (n':Int) (oJ oK oL bt:Nat) (A' P' H' L':List D),ra (Gq on (ak.s aJ) (ak.ops aJ) t) oJ oK oL bt A' P' H' L'->lN d' (List.foldl qJ e (ak.ops aJ))->ae (Pi.P.cX [],(0,En.mk 0 (some 0) (Obj.box (120:TypeId) [tL aQ,BP aP,BO,Pi.P.sl 5 0 oJ,Pi.P.sl 6 0 oK,Pi.P.mp 4 0,Pi.P.sl 7 0 oL,Pi.P.sl 8 0 bt]))::dN aQ::dM aP::dL dK dU::(4,En.mk 0 (some 6) (Obj.map 50 d' n' false))::(5,Ee A')::(6,Ed P')::YP H' L') else False)=(rR [] [] [(3,ah (aO 95 3) qdR)] 95 [.ref 0 0 0,.d (aV x)] (qgK g o f c d n na np nh nl A P H L)) ae:=by kernel_rfl
theorem ep{n m b:Nat}{l:List D}{z:D}(h:n=m)(hl:l.length=m)(hb:m<=1000000000000)(hz:b<=100):(Nat.ble n l.length&&aM (n+List.length [z]) b)=true:=by rw[zab];refine⟨by rw[zb0];omega,cp (zaI (Nat.mul_le_mul (by simp only[zap,zat];omega:n+List.length [z]<=1000000000001) hz) (by omega)) (by simp only[zap,zat];omega)⟩
theorem ra.go{t:Tl}{na np nh nl:Nat}{A P H L:List D}(h:ra t na np nh nl A P H L){on:Bool}{s:az}{y:aX}{k:Nat}{i:Int}(hi:(k:Int)=i){bt:Nat}{L':List D}(hg:cS on y nl L bt L'):
  (fN on y=true->gk on y=true->ra (Sg on s t y k) (na+1) (np+1) (nh+1) bt (List.take na A++[bE (s.1,s.2,i)]) (List.take np P++[bK (rU y)]) (List.take nh H++[jv (y.node,s)]) L')/\
  (fN on y=true->gk on y=false->ra (Sg on s t y k) (na+1) (np+1) nh bt (List.take na A++[bE (s.1,s.2,i)]) (List.take np P++[bK (rU y)]) H L')/\
  (fN on y=false->gk on y=true->ra (Sg on s t y k) na np (nh+1) bt A P (List.take nh H++[jv (y.node,s)]) L')/\
  (fN on y=false->gk on y=false->ra (Sg on s t y k) na np nh bt A P H L'):=by
 obtain⟨rfl,rfl,rfl,rfl,rfl,rfl,rfl,rfl⟩:=h;obtain⟨rfl,rfl⟩:=hg;subst hi;have hl:t.g.map jv++(if on=true then(GH y).map jv else [])=(if on=true then t.g++y.ca.map (λd=>(y.node,d)) else t.g).map jv:=by
  cases on
  ·simp
  simp[GH]
 have t1:List.take t.a.length (t.a.map bE)=t.a.map bE:=zai (by simp);have t2:List.take t.p.length (t.p.map bK)=t.p.map bK:=zai (by simp);have t3:List.take t.h.length (t.h.map jv)=t.h.map jv:=zai (by simp);rw[t1,t2,t3,hl];refine⟨λh1 h2=> ?_,λh1 h2=> ?_,λh1 h2=> ?_,λh1 h2=> ?_⟩<;>(unfold Sg;rw[h1,h2];constructor<;>simp)
theorem qdS(a b:av):D.ob (bE a) (bE b)=(a==b):=by rw[zaF,D.gV,zaR];exact⟨qba,λh=>by rw[h]⟩
theorem lN.mk{d:D->Option D}{e:av->Option Bool}(h:lN d e){y:aX}(hk:y.kind=0):lN (λk'=>bif D.ob (bE y.node) k' then some (.bool y.dir) else d k') (qJ e y):=λz=>by
 unfold qJ;show(bif D.ob (bE y.node) (bE z) then some (D.bool y.dir) else d (bE z))=_;rw[qdS,h z];by_cases hz:y.node=z
 ·rw[zao ⟨hk,hz⟩,show(y.node==z)=true by simpa using hz];rfl
 rw[zam (λhh=>hz hh.2),show(y.node==z)=false by simpa using hz];rfl
theorem lN.no{d:D->Option D}{e:av->Option Bool}(h:lN d e){y:aX}(hk: ¬y.kind=0):lN d (qJ e y):=λz=>by unfold qJ;rw[h z,zam (λhh=>hk hh.1)]
structure GaP where
 x:ak
 y:aX
 g:List ak
 o:List az
 f:D->Option D
 c:Int
 d:D->Option D
 n:Int
 na:Nat
 np:Nat
 nh:Nat
 A:List D
 P:List D
 H:List D
 on:Bool
 i:Int
 L:List D
abbrev GaB:=(D->Option D)×Int×Nat×Nat×Nat×Nat×List D×List D×List D×List D
structure GaQ where
 x:ak
 g:List ak
 o:List az
 f:D->Option D
 c:Int
 on:Bool
 t:Tl
 N:Nat
 e:av->Option Bool
section
variable{X:XF}{w0:World}(hX:du PR w0 X.cf)
include hX
theorem qdT:LN w0 95 13 (ah (aO 95 13) TI):=LN.qgI hX [4,5,7,8] (H:=[]) (HN:=[]) (hk:=[]) D5 (by kernel_rfl) (by kernel_rfl) (by kernel_rfl) .nil .nil .nil
 (A:=GaP) (B:=Nat×List D) (λa b j=>qdQ a.x a.y a.g a.o a.f a.c a.d a.n a.na a.np a.nh b.1 a.A a.P a.H b.2 a.on a.i j) (λa=>a.y.ca.length)
 (λa k b=>(a.y.ca.length<=200/\a.L.length<=100000000000)/\b.1=b.2.length/\b.2=a.L++(if a.on=true then(a.y.ca.take k).map (λs=>jv (a.y.node,s)) else []))
 (λa x=> ∃bt L',cS a.on a.y a.L.length a.L bt L'/\x=(.exit 2,gaH a.x a.g a.o a.f a.c a.d a.n a.na a.np a.nh bt a.A a.P a.H L' a.on a.i))
 (by
  rintro a ⟨nl,L⟩ j ae h0 EC BD ⟨⟨hd,hL⟩,r7,JK⟩ hn ho;dsimp only at*
  (rw[<-TH];delta oQ jy jz nV qA jA gO jB gQ lu Zt rY vV ix iy gh iz il cb eY TG BO eu BP fu tL fI Rm vQ vR vS zp Ah zq Ai Aj lq zr zs zt zu zw uo uq ur vT VC se bP e7 Ed eU Ee eV dL eL dM cW dN Zn nj sf Z9E Za Z9 Zj Zg Z9v VD y9)
  have e1:D.nth (a.y.ca.map bh) j.toNat=bh a.y.ca[j.toNat]:=aA _ _ _ BD;have lM:(a.y.ca.take (j.toNat+1))=a.y.ca.take j.toNat++[a.y.ca[j.toNat]]:=zag BD;rw[e1];generalize a.y.ca[j.toNat]=z at*
  have hLl:L.length<=a.L.length+200:=by
   rw[JK,zan];split
   ·rw[zaa,zay];omega
   simp
  have KB:j<((a.y.ca.map bh).length:Int):=by rw[zaa];exact EC
  refine bM KB (ao ⟨h0,KB⟩ (aq (jS _) (ay (λHr=>aq (ep r7 rfl (by omega) (by decide)) (ao (by omega) (hn (nl+1,List.take nl L++[jv (a.y.node,z)]) _ rfl ⟨⟨hd,hL⟩,?_,?_⟩))) λqdU=>ao (by omega) (hn (nl,L) _ rfl ⟨⟨hd,hL⟩,r7,?_⟩))))
  ·simp[r7]
  ·rw[Hr,zao rfl] at JK⊢;rw[lM,r7,zak,JK,zaz,zaZ];rfl
  rw[qdU] at JK⊢;simpa using JK)
 (by
  rintro a ⟨nl,L⟩ j ae hj ⟨⟨hd,hL⟩,r7,JK⟩ ho;dsimp only at*
  (rw[<-TH];delta oQ jy jz nV qA jA gO jB gQ lu Zt rY vV ix iy gh iz il cb eY TG BO eu BP fu tL fI Rm vQ vR vS zp Ah zq Ai Aj lq zr zs zt zu zw uo uq ur vT VC se bP e7 Ed eU Ee eV dL eL dM cW dN Zn nj sf Z9E Za Z9 Zj Zg Z9v VD y9)
  refine mq (by simp only[zaa];omega) (ho _ (λh=>by cases h) ⟨nl,L,⟨r7,?_⟩,rfl⟩);rw[JK,zak];cases a.on
  ·rfl
  simp[GH,zb5])
 (by rintro s ae ⟨x,y,g,o,f,c,d,n,na,np,nh,nl,A,P,H,L,on,i,hs,⟨h1,h2,h3⟩,hp⟩;refine⟨⟨x,y,g,o,f,c,d,n,na,np,nh,A,P,H,on,i,L⟩,(nl,L),hs,⟨⟨h1,by rw[<-h2];exact h3⟩,h2,by simp⟩,?_⟩;rintro z ⟨bt,L',hg,rfl⟩;exact hp bt L' ⟨hg.1,hg.2⟩)
theorem qgL:LN w0 95 3 (ah (aO 95 3) qdR):=LN.qgI hX [4,5,7,8] (H:=[]) (HN:=[]) (hk:=[(13,ah (aO 95 13) TI)]) D5 (by kernel_rfl) (by kernel_rfl) (by kernel_rfl) .nil .nil (.cons (qdT hX) .nil)
 (A:=GaQ) (B:=GaB) (λa b i=>gaH a.x a.g a.o a.f a.c b.1 b.2.1 b.2.2.1 b.2.2.2.1 b.2.2.2.2.1 b.2.2.2.2.2.1 b.2.2.2.2.2.2.1 b.2.2.2.2.2.2.2.1 b.2.2.2.2.2.2.2.2.1 b.2.2.2.2.2.2.2.2.2 a.on i) (λa=>a.x.ops.length)
 (λa k b=>(uz a.N a.t/\a.N<=300000000/\a.x.ops.length<=200/\ ∀y∈a.x.ops,y.ca.length<=200)/\ra (Gq a.on a.x.s (a.x.ops.take k) a.t) b.2.2.1 b.2.2.2.1 b.2.2.2.2.1 b.2.2.2.2.2.1 b.2.2.2.2.2.2.1 b.2.2.2.2.2.2.2.1 b.2.2.2.2.2.2.2.2.1 b.2.2.2.2.2.2.2.2.2/\lN b.1 ((a.x.ops.take k).foldl qJ a.e))
 (λa x=> ∃d' n' oJ oK oL bt A' P' H' L',ra (Gq a.on a.x.s a.x.ops a.t) oJ oK oL bt A' P' H' L'/\lN d' (a.x.ops.foldl qJ a.e)/\x=(.exit 0,gaE a.g a.o a.f a.c d' n' oJ oK oL bt A' P' H' L'))
 (by
  rintro⟨x,g,o,f,c,on,t,N,e⟩ ⟨d,n,na,np,nh,nl,A,P,H,L⟩ i ae h0 bQ bj ⟨hc,hR,hD⟩ hn ho;dsimp only at*
  (rw[<-qbd];delta bP YP jA gO jB gQ Zg jC Rn Ro Rp Z9X Za0 BO eu BP fu tL Za9 Xv Xw Xx oQ jy jz nV qA lu DJ TG YQ Zt ZE Z9U VE Zn Za Z9 Zj q9 Rm vQ vR vS zp Ah zq Ai Aj lq zr zs zt zu zw uo uq ur vT VC se e7 Ed eU Ee eV fI Z7 nj rY vV ix iy sf gh iz il cb eY VF Z5T Ly Lz LA dL eL dM cW dN Za1 vE y9 VG VH Ox Oy Rq)
  have kq:=(hc.1.ops (on:=on) (s:=x.s) hc.2.2.2 i.toNat (by omega)).mono (m:=300000200) (by omega);have e1:D.nth (x.ops.map eI) i.toNat=eI x.ops[i.toNat]:=aA _ _ _ bj;have kC:=yR (on:=on) (s:=x.s) (t:=t) bj;have NS:(x.ops.take (i.toNat+1)).foldl qJ e=qJ ((x.ops.take i.toNat).foldl qJ e) x.ops[i.toNat]:=by rw[zag bj,za2];rfl
  have ie:=hc.2.2.2 _ (zas bj);have Vj:((i.toNat:Nat):Int)=i:=by omega
  rw[e1];generalize x.ops[i.toNat]=y at kC NS ie⊢;generalize Gq on x.s (x.ops.take i.toNat) t=t1 at kC hR kq;generalize (x.ops.take i.toNat).foldl qJ e=e2 at NS hD;have u0:D.aj (D.ar (eI y) 0)=y.kind:=rfl;have sB:=I9 y;simp only[u0];have gf:i<((x.ops.map eI).length:Int):=by rw[zaa];exact bQ
  refine bM gf (ao ⟨h0,gf⟩ (aq sB ?_));clear e1 sB;by_cases gn:y.kind=0
  ·rw[show(y.kind==0)=true by simp[gn],show(y.kind==1)=false by simp[gn],show(y.kind !=2)=true by simp[gn]];cases on with
   |true=>simp only[zbS,zbo];exact aq (ep hR.na (by rw[hR.a,zaa]) (by have:=kq.2.1;omega) (by decide)) (aq (ep hR.np (by rw[hR.p,zaa]) (by have:=kq.1;have:=kq.2.1;omega) (by decide)) (aq (ep hR.nh (by rw[hR.h,zaa]) (by have:=kq.2.2.1;omega) (by decide)) (⟨x,y,g,o,f,c,(λk'=>bif D.ob (bE y.node) k' then some (.bool y.dir) else d k'),(bif (d (bE y.node)).isSome then n else n+1),na+1,np+1,nh+1,nl,List.take na A++[bE (x.s.1,x.s.2,i)],List.take np P++[bK (rU y)],List.take nh H++[jv (y.node,x.s)],L,true,i,rfl,⟨ie,hR.nl.trans (by rw[hR.l,zaa]),by have:=hR.nl;have:=kq.2.2.2;omega⟩,λbt L' mA=>ao (by omega) (hn ((λk'=>bif D.ob (bE y.node) k' then some (.bool y.dir) else d k'),(bif (d (bE y.node)).isSome then n else n+1),na+1,np+1,nh+1,bt,List.take na A++[bE (x.s.1,x.s.2,i)],List.take np P++[bK (rU y)],List.take nh H++[jv (y.node,x.s)],L') _ rfl ⟨hc,by rw[kC];exact(hR.go Vj mA).1 (by simp[fN,gn]) (by simp[gk,gn]),by rw[NS];exact hD.mk gn⟩)⟩)))
   |false=>simp only[zbS,zbo];exact aq (ep hR.na (by rw[hR.a,zaa]) (by have:=kq.2.1;omega) (by decide)) (aq (ep hR.np (by rw[hR.p,zaa]) (by have:=kq.1;have:=kq.2.1;omega) (by decide)) (⟨x,y,g,o,f,c,(λk'=>bif D.ob (bE y.node) k' then some (.bool y.dir) else d k'),(bif (d (bE y.node)).isSome then n else n+1),na+1,np+1,nh,nl,List.take na A++[bE (x.s.1,x.s.2,i)],List.take np P++[bK (rU y)],H,L,false,i,rfl,⟨ie,hR.nl.trans (by rw[hR.l,zaa]),by have:=hR.nl;have:=kq.2.2.2;omega⟩,λbt L' mA=>ao (by omega) (hn ((λk'=>bif D.ob (bE y.node) k' then some (.bool y.dir) else d k'),(bif (d (bE y.node)).isSome then n else n+1),na+1,np+1,nh,bt,List.take na A++[bE (x.s.1,x.s.2,i)],List.take np P++[bK (rU y)],H,L') _ rfl ⟨hc,by rw[kC];exact(hR.go Vj mA).2.1 (by simp[fN,gn]) (by simp[gk,gn]),by rw[NS];exact hD.mk gn⟩)⟩))
  by_cases fV:y.kind=1
  ·rw[show(y.kind==0)=false by simp[gn],show(y.kind==1)=true by simp[fV],show(y.kind !=2)=true by simp[fV]];cases on with
   |true=>simp only[zbS,zbo];exact aq (ep hR.na (by rw[hR.a,zaa]) (by have:=kq.2.1;omega) (by decide)) (aq (ep hR.np (by rw[hR.p,zaa]) (by have:=kq.1;have:=kq.2.1;omega) (by decide)) (aq (ep hR.nh (by rw[hR.h,zaa]) (by have:=kq.2.2.1;omega) (by decide)) (⟨x,y,g,o,f,c,d,n,na+1,np+1,nh+1,nl,List.take na A++[bE (x.s.1,x.s.2,i)],List.take np P++[bK (rU y)],List.take nh H++[jv (y.node,x.s)],L,true,i,rfl,⟨ie,hR.nl.trans (by rw[hR.l,zaa]),by have:=hR.nl;have:=kq.2.2.2;omega⟩,λbt L' mA=>ao (by omega) (hn (d,n,na+1,np+1,nh+1,bt,List.take na A++[bE (x.s.1,x.s.2,i)],List.take np P++[bK (rU y)],List.take nh H++[jv (y.node,x.s)],L') _ rfl ⟨hc,by rw[kC];exact(hR.go Vj mA).1 (by simp[fN,fV]) (by simp[gk,fV]),by rw[NS];exact hD.no gn⟩)⟩)))
   |false=>simp only[zbS,zbo];exact⟨x,y,g,o,f,c,d,n,na,np,nh,nl,A,P,H,L,false,i,rfl,⟨ie,hR.nl.trans (by rw[hR.l,zaa]),by have:=hR.nl;have:=kq.2.2.2;omega⟩,λbt L' mA=>ao (by omega) (hn (d,n,na,np,nh,bt,A,P,H,L') _ rfl ⟨hc,by rw[kC];exact(hR.go Vj mA).2.2.2 (by simp[fN,fV]) (by simp[gk,fV]),by rw[NS];exact hD.no gn⟩)⟩
  by_cases r6:y.kind=2
  ·rw[show(y.kind==0)=false by simp[gn],show(y.kind==1)=false by simp[fV],show(y.kind !=2)=false by simp[r6]];cases on with
   |true=>simp only[zbo];exact⟨x,y,g,o,f,c,d,n,na,np,nh,nl,A,P,H,L,true,i,rfl,⟨ie,hR.nl.trans (by rw[hR.l,zaa]),by have:=hR.nl;have:=kq.2.2.2;omega⟩,λbt L' mA=>ao (by omega) (hn (d,n,na,np,nh,bt,A,P,H,L') _ rfl ⟨hc,by rw[kC];exact(hR.go Vj mA).2.2.2 (by simp[fN,r6]) (by simp[gk,r6]),by rw[NS];exact hD.no gn⟩)⟩
   |false=>simp only[zbo];exact⟨x,y,g,o,f,c,d,n,na,np,nh,nl,A,P,H,L,false,i,rfl,⟨ie,hR.nl.trans (by rw[hR.l,zaa]),by have:=hR.nl;have:=kq.2.2.2;omega⟩,λbt L' mA=>ao (by omega) (hn (d,n,na,np,nh,bt,A,P,H,L') _ rfl ⟨hc,by rw[kC];exact(hR.go Vj mA).2.2.2 (by simp[fN,r6]) (by simp[gk,r6]),by rw[NS];exact hD.no gn⟩)⟩
  rw[show(y.kind==0)=false by simp[gn],show(y.kind==1)=false by simp[fV],show(y.kind !=2)=true by simp[r6]];cases on with
  |true=>simp only[zbo];exact aq (ep hR.nh (by rw[hR.h,zaa]) (by have:=kq.2.2.1;omega) (by decide)) (⟨x,y,g,o,f,c,d,n,na,np,nh+1,nl,A,P,List.take nh H++[jv (y.node,x.s)],L,true,i,rfl,⟨ie,hR.nl.trans (by rw[hR.l,zaa]),by have:=hR.nl;have:=kq.2.2.2;omega⟩,λbt L' mA=>ao (by omega) (hn (d,n,na,np,nh+1,bt,A,P,List.take nh H++[jv (y.node,x.s)],L') _ rfl ⟨hc,by rw[kC];exact(hR.go Vj mA).2.2.1 (by simp[fN,gn,fV]) (by simp[gk,r6]),by rw[NS];exact hD.no gn⟩)⟩)
  |false=>simp only[zbo];exact⟨x,y,g,o,f,c,d,n,na,np,nh,nl,A,P,H,L,false,i,rfl,⟨ie,hR.nl.trans (by rw[hR.l,zaa]),by have:=hR.nl;have:=kq.2.2.2;omega⟩,λbt L' mA=>ao (by omega) (hn (d,n,na,np,nh,bt,A,P,H,L') _ rfl ⟨hc,by rw[kC];exact(hR.go Vj mA).2.2.2 (by simp[fN,gn]) (by simp[gk]),by rw[NS];exact hD.no gn⟩)⟩)
 (by
  rintro⟨x,g,o,f,c,on,t,N,e⟩ ⟨d,n,na,np,nh,nl,A,P,H,L⟩ i ae hi ⟨hc,hR,hD⟩ ho;dsimp only at*
  (rw[<-qbd];delta bP YP jA gO jB gQ Zg jC Rn Ro Rp Z9X Za0 BO eu BP fu tL Za9 Xv Xw Xx oQ jy jz nV qA lu DJ TG YQ Zt ZE Z9U VE Zn Za Z9 Zj q9 Rm vQ vR vS zp Ah zq Ai Aj lq zr zs zt zu zw uo uq ur vT VC se e7 Ed eU Ee eV fI Z7 nj rY vV ix iy sf gh iz il cb eY VF Z5T Ly Lz LA dL eL dM cW dN Za1 vE y9 VG VH Ox Oy Rq)
  rw[zak] at hR hD;exact mq (by simp only[zaa];omega) (ho _ (λh=>by cases h) ⟨d,n,na,np,nh,nl,A,P,H,L,hR,hD,rfl⟩))
 (by rintro s ae ⟨x,g,o,f,c,d,n,na,np,nh,nl,A,P,H,L,on,t,N,e,hs,⟨h1,h2,h3⟩,hp⟩;refine⟨⟨x,g,o,f,c,on,t,N,e⟩,(d,n,na,np,nh,nl,A,P,H,L),hs,⟨h3,h1,h2⟩,?_⟩;rintro z ⟨d',n',oJ,oK,oL,bt,A',P',H',L',g1,g2,rfl⟩;exact hp d' n' oJ oK oL bt A' P' H' L' g1 g2)
end
def nr(x:Td):D:= .agg [iE x.1.1,iE x.1.2.1,iE x.1.2.2,iE x.2.1.1,iE x.2.1.2.1,iE x.2.1.2.2,iE x.2.2.1.1,iE x.2.2.1.2.1,iE x.2.2.1.2.2,.str x.2.2.2.1,.bool x.2.2.2.2]
abbrev qK(z:Bool)(l:List Td):Obj:= .arr 155 z (l.map nr)
abbrev rsA(a:List av)(l:List Pl)(s:List Td)(i:Int):S:=⟨93,[(0,cR a),(1,eH l),(5,.sl 0 0 s.length),(6,iD i)],[(0,⟨0,none,qK false s⟩)]⟩
abbrev rsB(a:List av)(l:List Pl)(s:List Td)(i:Int)(h:Bool)(k:Int):S:=⟨93,[(0,cR a),(1,eH l),(5,.sl 0 0 s.length),(6,iD i),(7,.d (.bool h)),(8,iD k)],[(0,⟨0,none,qK false s⟩)]⟩
abbrev rsC(a:List av)(l:List Pl)(s:List Td)(n:Nat)(i k:Int):S:=⟨93,[(0,cR a),(1,eH l),(5,.sl 0 0 n),(6,iD i),(9,iD k)],[(0,⟨0,none,qK false s⟩)]⟩
def rZ(s:List Td)(k:Int):D:=D.nth (List.map nr s) (Zg k)
def VI(k:Int)(s:List Td):Bool:=decide (Zg k<List.length (List.map nr s))
def Ef(s:List Td):Nat×En:=(0,En.mk 0 none (Obj.arr (155:TypeId) false (List.map nr s)))
def VJ(s:List Td):List (Nat×En):=[Ef s]
def JL(s:List Td):Nat×P:=(5,P.sl 0 0 (List.length s))
def Eg(l:List Pl):Nat×P:=(1,lF l)
theorem qbe(a:List av)(l:List Pl)(s:List Td)(i:Int)(h:Bool)(k:Int)(ae:PX×S->Prop):(bif decide (k<(↑(List.length s):Int)) then bif h then bif Zj k then ae (PX.normal,S.mk 93 (DB a::Eg l::JL s::ZK i::(7,ZO)::qG k) (VJ s)) else False else bif decide ((0:Int)<=k/\k<(↑(List.length s):Int)) then bif VI k s then bif cD PR (155:TypeId) (rZ s k) then bif Na i a then bif wJ a i then bif Zj k then ae (PX.normal,S.mk 93 (DB a::Eg l::JL s::ZK i::(7,P.d (D.bool (D.aj (D.ar (rZ s k) 0)==I8 a i&&(D.aj (D.ar (rZ s k) 1)==I7 a i&&true)&&(D.aj (D.ar (rZ s k) 2)==I6 a i&&true))))::qG k) (VJ s)) else False else False else False else False else False else False else ae (PX.exit 2,S.mk 93 [DB a,Eg l,JL s,ZK i,vA h] (VJ s)))=(aG [] [] 85 7 (rsB a l s i h k)) ae:=by kernel_rfl
def qdV:S->K (PX×S):=λs ae=> ∃(a:List av) (l:List Pl) (t:List Td) (i:Int) (hi:i.toNat<a.length),s=rsB a l t i false 0/\(t.length<=1000000/\0<=i/\i<a.length)/\ ∀b,b=(t.any λx=>x.1==a[i.toNat])->ae (.exit 2,⟨93,[(0,cR a),(1,eH l),(5,.sl 0 0 t.length),(6,iD i),(7,.d (.bool b))],[(0,⟨0,none,qK false t⟩)]⟩)
def Zao(s:List Td)(k:Int):D:=D.int .i64 (D.aj (D.ar (rZ s k) 8))
def Zan(s:List Td)(k:Int):D:=D.int .i64 (D.aj (D.ar (rZ s k) 7))
def Zam(s:List Td)(k:Int):D:=D.int .i64 (D.aj (D.ar (rZ s k) 6))
def Zal(s:List Td)(k:Int):D:=D.int .i64 (D.aj (D.ar (rZ s k) 5))
def Zak(s:List Td)(k:Int):D:=D.int .i64 (D.aj (D.ar (rZ s k) 4))
def Zaj(s:List Td)(k:Int):D:=D.int .i64 (D.aj (D.ar (rZ s k) 3))
def Zap(s:List Td)(k:Int):List D:=[Zaj s k,Zak s k,Zal s k,Zam s k,Zan s k,Zao s k,D.str (D.eJ (D.ar (rZ s k) 9)),D.bool (D.e9 (D.ar (rZ s k) 10))]
def Zaq(s:List Td)(k:Int):List D:=D.int .i64 (D.aj (D.ar (rZ s k) 0))::D.int .i64 (D.aj (D.ar (rZ s k) 1))::D.int .i64 (D.aj (D.ar (rZ s k) 2))::Zap s k
def GI(s:List Td)(k:Int):D:=D.nth (List.map nr s) (Zc k)
def Zar(s:List Td)(k:Int):List D:=List.set (List.map nr s) (Zg k) (D.aW (D.agg (Zaq s k)) [D.int .i64 (D.aj (D.ar (GI s k) 0)),D.int .i64 (D.aj (D.ar (GI s k) 1)),D.int .i64 (D.aj (D.ar (GI s k) 2)),D.int .i64 (D.aj (D.ar (GI s k) 3)),D.int .i64 (D.aj (D.ar (GI s k) 4)),D.int .i64 (D.aj (D.ar (GI s k) 5)),D.int .i64 (D.aj (D.ar (GI s k) 6)),D.int .i64 (D.aj (D.ar (GI s k) 7)),D.int .i64 (D.aj (D.ar (GI s k) 8)),D.str (D.eJ (D.ar (GI s k) 9)),D.bool (D.e9 (D.ar (GI s k) 10))])
def NT(s:List Td)(k:Int):D:=D.nth (Zar s k) (Zc k)
theorem qgM(a:List av)(l:List Pl)(s:List Td)(n:Nat)(i k:Int)(ae:PX×S->Prop):(bif Zr k then bif mC k n then bif VI k s then bif cD PR (155:TypeId) (rZ s k) then bif Zb k then bif wQ k n then bif decide (Zc k<List.length (List.map nr s)) then bif cD PR (155:TypeId) (GI s k) then∃(t:Int) (r:Int) (aH:Int) (t':Int) (r':Int) (i':Int),[P.d (D.agg [D.int .i64 (D.aj (D.ar (rZ s k) 0)),D.int .i64 (D.aj (D.ar (rZ s k) 1)),D.int .i64 (D.aj (D.ar (rZ s k) 2))]),P.d (D.agg [D.int .i64 (D.aj (D.ar (GI s k) 0)),D.int .i64 (D.aj (D.ar (GI s k) 1)),D.int .i64 (D.aj (D.ar (GI s k) 2))])]=SE t r aH t' r' i'/\Zx/\bif SD t r aH t' r' i' then bif Zb k then bif Zb k then bif wQ k n then bif decide (Zc k<List.length (List.map nr s)) then bif cD PR (155:TypeId) (GI s k) then bif mC k n then bif VI k s then bif cD PR (155:TypeId) (rZ s k) then bif mC k n then bif VI k s then bif cD PR (155:TypeId) (rZ s k) then bif wQ k n then bif decide (Zc k<List.length (Zar s k)) then bif cD PR (155:TypeId) (NT s k) then bif Zb k then ae (PX.normal,S.mk 93 (DB a::Eg l::ZC n::ZK i::Z7Q k) [(0,En.mk 0 none (Obj.arr (155:TypeId) false (List.set (Zar s k) (Zc k) (D.aW (D.agg [D.int .i64 (D.aj (D.ar (NT s k) 0)),D.int .i64 (D.aj (D.ar (NT s k) 1)),D.int .i64 (D.aj (D.ar (NT s k) 2)),D.int .i64 (D.aj (D.ar (NT s k) 3)),D.int .i64 (D.aj (D.ar (NT s k) 4)),D.int .i64 (D.aj (D.ar (NT s k) 5)),D.int .i64 (D.aj (D.ar (NT s k) 6)),D.int .i64 (D.aj (D.ar (NT s k) 7)),D.int .i64 (D.aj (D.ar (NT s k) 8)),D.str (D.eJ (D.ar (NT s k) 9)),D.bool (D.e9 (D.ar (NT s k) 10))]) (Zaq s k)))))]) else False else False else False else False else False else False else False else False else False else False else False else False else False else False else False else ae (PX.exit 4,S.mk 93 (DB a::Eg l::ZC n::JE i) (VJ s)) else False else False else False else False else False else False else False else ae (PX.exit 4,S.mk 93 (DB a::Eg l::ZC n::JE i) (VJ s)))=(aG [(88,iS)] [] 85 13 (rsC a l s n i k)) ae:=by kernel_rfl
def qdW:S->K (PX×S):=λs ae=> ∃a l t x n i k,s=rsC a l (t++[x]) n i k/\(k=(t.length:Int)/\n=t.length+1/\t.length<=1000000)/\ ∀t',t'=cL ltT t x->ae (.exit 4,rsA a l t' i)
theorem qbf(a:List av)(l:List Pl)(s:List Td)(i:Int)(ae:PX×S->Prop):(bif decide (i<(↑(List.length (List.map bE a)):Int)) then bif decide (i<(↑(List.length (List.map bK l)):Int)) then∃(kF:List av),∃(au:List Pl),∃(t:List Td),∃(aH:Int),∃(hi:Int.toNat aH<List.length kF),S.mk 93 [(0,P.d (D.sl 3 (List.map bE a))),(1,P.d (D.sl 8 (List.map bK l))),(5,P.sl 0 0 (List.length s)),(6,P.d (D.int IntKind.i64 i)),(7,P.d (D.bool false)),(8,P.d (D.int IntKind.i64 (0:Int)))] [(0,En.mk 0 none (Obj.arr 155 false (List.map nr s)))]=S.mk 93 [(0,P.d (D.sl 3 (List.map bE kF))),(1,P.d (D.sl 8 (List.map bK au))),(5,P.sl 0 0 (List.length t)),(6,P.d (D.int IntKind.i64 aH)),(7,P.d (D.bool false)),(8,P.d (D.int IntKind.i64 (0:Int)))] [(0,En.mk 0 none (Obj.arr 155 false (List.map nr t)))]/\(List.length t<=1000000/\(0:Int)<=aH/\aH<(↑(List.length kF):Int))/\ ∀(b:Bool),(b=List.any t λ(x:Td)=>Prod.fst x==kF[Int.toNat aH])->bif b then bif decide ((-9223372036854775808:Int)<=aH+(1:Int)/\aH+(1:Int)<=(9223372036854775807:Int)) then ae (PX.normal,S.mk 93 [(0,P.d (D.sl 3 (List.map bE kF))),(1,P.d (D.sl 8 (List.map bK au))),(5,P.sl 0 0 (List.length t)),(6,P.d (D.int IntKind.i64 (aH+(1:Int))))] [(0,En.mk 0 none (Obj.arr 155 false (List.map nr t)))]) else False else bif decide ((0:Int)<=aH/\aH<(↑(List.length (List.map bE kF)):Int)) then bif cD PR 50 (D.nth (List.map bE kF) (Int.toNat aH)) then bif decide ((0:Int)<=aH/\aH<(↑(List.length (List.map bK au)):Int)) then bif cD PR 104 (D.nth (List.map bK au) (Int.toNat aH)) then bif Nat.ble (List.length t) (List.length (List.map nr t))&&aM (List.length t+List.length [D.agg [D.int IntKind.i64 (D.aj (D.ar (D.nth (List.map bE kF) (Int.toNat aH)) 0)),D.int IntKind.i64 (D.aj (D.ar (D.nth (List.map bE kF) (Int.toNat aH)) 1)),D.int IntKind.i64 (D.aj (D.ar (D.nth (List.map bE kF) (Int.toNat aH)) 2)),D.int IntKind.i64 (D.aj (D.ar (D.nth (List.map bK au) (Int.toNat aH)) 0)),D.int IntKind.i64 (D.aj (D.ar (D.nth (List.map bK au) (Int.toNat aH)) 1)),D.int IntKind.i64 (D.aj (D.ar (D.nth (List.map bK au) (Int.toNat aH)) 2)),D.int IntKind.i64 (D.aj (D.ar (D.nth (List.map bK au) (Int.toNat aH)) 3)),D.int IntKind.i64 (D.aj (D.ar (D.nth (List.map bK au) (Int.toNat aH)) 4)),D.int IntKind.i64 (D.aj (D.ar (D.nth (List.map bK au) (Int.toNat aH)) 5)),D.str (D.eJ (D.ar (D.nth (List.map bK au) (Int.toNat aH)) 6)),D.bool (D.e9 (D.ar (D.nth (List.map bK au) (Int.toNat aH)) 7))]]) 96 then bif decide ((-9223372036854775808:Int)<=(↑(List.length t+List.length [D.agg [D.int IntKind.i64 (D.aj (D.ar (D.nth (List.map bE kF) (Int.toNat aH)) 0)),D.int IntKind.i64 (D.aj (D.ar (D.nth (List.map bE kF) (Int.toNat aH)) 1)),D.int IntKind.i64 (D.aj (D.ar (D.nth (List.map bE kF) (Int.toNat aH)) 2)),D.int IntKind.i64 (D.aj (D.ar (D.nth (List.map bK au) (Int.toNat aH)) 0)),D.int IntKind.i64 (D.aj (D.ar (D.nth (List.map bK au) (Int.toNat aH)) 1)),D.int IntKind.i64 (D.aj (D.ar (D.nth (List.map bK au) (Int.toNat aH)) 2)),D.int IntKind.i64 (D.aj (D.ar (D.nth (List.map bK au) (Int.toNat aH)) 3)),D.int IntKind.i64 (D.aj (D.ar (D.nth (List.map bK au) (Int.toNat aH)) 4)),D.int IntKind.i64 (D.aj (D.ar (D.nth (List.map bK au) (Int.toNat aH)) 5)),D.str (D.eJ (D.ar (D.nth (List.map bK au) (Int.toNat aH)) 6)),D.bool (D.e9 (D.ar (D.nth (List.map bK au) (Int.toNat aH)) 7))]]):Int)-(1:Int)/\(↑(List.length t+List.length [D.agg [D.int IntKind.i64 (D.aj (D.ar (D.nth (List.map bE kF) (Int.toNat aH)) 0)),D.int IntKind.i64 (D.aj (D.ar (D.nth (List.map bE kF) (Int.toNat aH)) 1)),D.int IntKind.i64 (D.aj (D.ar (D.nth (List.map bE kF) (Int.toNat aH)) 2)),D.int IntKind.i64 (D.aj (D.ar (D.nth (List.map bK au) (Int.toNat aH)) 0)),D.int IntKind.i64 (D.aj (D.ar (D.nth (List.map bK au) (Int.toNat aH)) 1)),D.int IntKind.i64 (D.aj (D.ar (D.nth (List.map bK au) (Int.toNat aH)) 2)),D.int IntKind.i64 (D.aj (D.ar (D.nth (List.map bK au) (Int.toNat aH)) 3)),D.int IntKind.i64 (D.aj (D.ar (D.nth (List.map bK au) (Int.toNat aH)) 4)),D.int IntKind.i64 (D.aj (D.ar (D.nth (List.map bK au) (Int.toNat aH)) 5)),D.str (D.eJ (D.ar (D.nth (List.map bK au) (Int.toNat aH)) 6)),D.bool (D.e9 (D.ar (D.nth (List.map bK au) (Int.toNat aH)) 7))]]):Int)-(1:Int)<=(9223372036854775807:Int)) then∃(a:List av),∃(l:List Pl),∃(pG:List Td),∃(x:Td),∃(n:Nat),∃(i:Int),∃(k:Int),S.mk 93 [(0,P.d (D.sl 3 (List.map bE kF))),(1,P.d (D.sl 8 (List.map bK au))),(5,P.sl 0 0 (List.length t+List.length [D.agg [D.int IntKind.i64 (D.aj (D.ar (D.nth (List.map bE kF) (Int.toNat aH)) 0)),D.int IntKind.i64 (D.aj (D.ar (D.nth (List.map bE kF) (Int.toNat aH)) 1)),D.int IntKind.i64 (D.aj (D.ar (D.nth (List.map bE kF) (Int.toNat aH)) 2)),D.int IntKind.i64 (D.aj (D.ar (D.nth (List.map bK au) (Int.toNat aH)) 0)),D.int IntKind.i64 (D.aj (D.ar (D.nth (List.map bK au) (Int.toNat aH)) 1)),D.int IntKind.i64 (D.aj (D.ar (D.nth (List.map bK au) (Int.toNat aH)) 2)),D.int IntKind.i64 (D.aj (D.ar (D.nth (List.map bK au) (Int.toNat aH)) 3)),D.int IntKind.i64 (D.aj (D.ar (D.nth (List.map bK au) (Int.toNat aH)) 4)),D.int IntKind.i64 (D.aj (D.ar (D.nth (List.map bK au) (Int.toNat aH)) 5)),D.str (D.eJ (D.ar (D.nth (List.map bK au) (Int.toNat aH)) 6)),D.bool (D.e9 (D.ar (D.nth (List.map bK au) (Int.toNat aH)) 7))]])),(6,P.d (D.int IntKind.i64 aH)),(9,P.d (D.int IntKind.i64 ((↑(List.length t+List.length [D.agg [D.int IntKind.i64 (D.aj (D.ar (D.nth (List.map bE kF) (Int.toNat aH)) 0)),D.int IntKind.i64 (D.aj (D.ar (D.nth (List.map bE kF) (Int.toNat aH)) 1)),D.int IntKind.i64 (D.aj (D.ar (D.nth (List.map bE kF) (Int.toNat aH)) 2)),D.int IntKind.i64 (D.aj (D.ar (D.nth (List.map bK au) (Int.toNat aH)) 0)),D.int IntKind.i64 (D.aj (D.ar (D.nth (List.map bK au) (Int.toNat aH)) 1)),D.int IntKind.i64 (D.aj (D.ar (D.nth (List.map bK au) (Int.toNat aH)) 2)),D.int IntKind.i64 (D.aj (D.ar (D.nth (List.map bK au) (Int.toNat aH)) 3)),D.int IntKind.i64 (D.aj (D.ar (D.nth (List.map bK au) (Int.toNat aH)) 4)),D.int IntKind.i64 (D.aj (D.ar (D.nth (List.map bK au) (Int.toNat aH)) 5)),D.str (D.eJ (D.ar (D.nth (List.map bK au) (Int.toNat aH)) 6)),D.bool (D.e9 (D.ar (D.nth (List.map bK au) (Int.toNat aH)) 7))]]):Int)-(1:Int))))] [(0,En.mk 0 none (Obj.arr 155 false (List.take (List.length t) (List.map nr t)++[D.agg [D.int IntKind.i64 (D.aj (D.ar (D.nth (List.map bE kF) (Int.toNat aH)) 0)),D.int IntKind.i64 (D.aj (D.ar (D.nth (List.map bE kF) (Int.toNat aH)) 1)),D.int IntKind.i64 (D.aj (D.ar (D.nth (List.map bE kF) (Int.toNat aH)) 2)),D.int IntKind.i64 (D.aj (D.ar (D.nth (List.map bK au) (Int.toNat aH)) 0)),D.int IntKind.i64 (D.aj (D.ar (D.nth (List.map bK au) (Int.toNat aH)) 1)),D.int IntKind.i64 (D.aj (D.ar (D.nth (List.map bK au) (Int.toNat aH)) 2)),D.int IntKind.i64 (D.aj (D.ar (D.nth (List.map bK au) (Int.toNat aH)) 3)),D.int IntKind.i64 (D.aj (D.ar (D.nth (List.map bK au) (Int.toNat aH)) 4)),D.int IntKind.i64 (D.aj (D.ar (D.nth (List.map bK au) (Int.toNat aH)) 5)),D.str (D.eJ (D.ar (D.nth (List.map bK au) (Int.toNat aH)) 6)),D.bool (D.e9 (D.ar (D.nth (List.map bK au) (Int.toNat aH)) 7))]])))]=S.mk 93 [(0,P.d (D.sl 3 (List.map bE a))),(1,P.d (D.sl 8 (List.map bK l))),(5,P.sl 0 0 n),(6,P.d (D.int IntKind.i64 i)),(9,P.d (D.int IntKind.i64 k))] [(0,En.mk 0 none (Obj.arr 155 false (List.map nr (pG++[x]))))]/\(k=(↑(List.length pG):Int)/\n=List.length pG+1/\List.length pG<=1000000)/\ ∀(t':List Td),t'=cL ltT pG x->bif decide ((-9223372036854775808:Int)<=i+(1:Int)/\i+(1:Int)<=(9223372036854775807:Int)) then ae (PX.normal,S.mk 93 [(0,P.d (D.sl 3 (List.map bE a))),(1,P.d (D.sl 8 (List.map bK l))),(5,P.sl 0 0 (List.length t')),(6,P.d (D.int IntKind.i64 (i+(1:Int))))] [(0,En.mk 0 none (Obj.arr 155 false (List.map nr t')))]) else False else False else False else False else False else False else False else ae (PX.exit 0,S.mk 93 [(5,P.sl 0 0 (List.length s))] [(0,En.mk 0 none (Obj.arr 155 false (List.map nr s)))]) else ae (PX.exit 0,S.mk 93 [(5,P.sl 0 0 (List.length s))] [(0,En.mk 0 none (Obj.arr 155 false (List.map nr s)))]))=(aG [] [(7,ah (aO 85 7) qdV),(13,ah (aO 85 13) qdW)] 85 3 (rsA a l s i)) ae:=by kernel_rfl
def qdX:S->K (PX×S):=λs ae=> ∃a l,s=rsA a l [] 0/\(a.length<=1000000/\l.length=a.length)/\ ∀t,t=JD a l->ae (.exit 0,⟨93,[(5,.sl 0 0 t.length)],[(0,⟨0,none,qK false t⟩)]⟩)
def Zat(a:List av)(l:List Pl):S:=S.mk 93 (DB a::Eg l::SZ) [(0,En.mk 0 none (Obj.arr (155:TypeId) false []))]
theorem qgN(a:List av)(l:List Pl)(ae:P×List (Nat×En)->Prop):(∃(kF:List av) (au:List Pl),Zat a l=Zat kF au/\(pS kF/\jU au=ib kF)/\ ∀(t:List Td),t=JD kF au->ae (P.sl 0 0 (List.length t),VJ t))=(aK [] [(3,ah (aO 85 3) qdX)] 85 [cR a,eH l] []) ae:=by kernel_rfl
def qdY:br:=λps R ae=> ∃a l,ps=[cR a,eH l]/\R=[]/\(a.length<=1000000/\l.length=a.length)/\ ∀t,t=JD a l->ae (.sl 0 0 t.length,[(0,⟨0,none,qK false t⟩)])
def qdZ:br:=λps R ae=> ∃l x y,ps=[.sl 0 0 l.length,.d (bE x),.d (bE y)]/\R=BG false l/\l.length<=1000000/\ ∀b,b=within l x y->ae (.d (.bool b),BG false l)
abbrev rpA(t:List Td)(o:List Pl)(i:Int):S:=⟨96,[(5,.sl 0 0 t.length),(6,.sl 1 0 o.length),(7,iD i)],[(0,⟨0,none,qK false t⟩),(1,⟨0,none,pT false o⟩)]⟩
abbrev rpB(t:List Td)(o:List Pl)(m:Nat)(i k:Int):S:=⟨96,[(5,.sl 0 0 t.length),(6,.sl 1 0 m),(7,iD i),(10,iD k)],[(0,⟨0,none,qK false t⟩),(1,⟨0,none,pT false o⟩)]⟩
def Zax(ae:PX×S->Prop)(t:List Td)(m:Nat)(i:Int)(o:List Pl):Prop:=ae (PX.exit 2,S.mk 96 [JL t,JA m,rX i] (Ef t::Gx o))
def LB(o:List Pl)(k:Int):D:=D.nth (iv o) (Zc k)
def Zav(o:List Pl)(k:Int):List D:=List.set (iv o) (Zg k) (D.aW (D.agg (Yc o k)) [D.int .i64 (D.aj (D.ar (LB o k) 0)),D.int .i64 (D.aj (D.ar (LB o k) 1)),D.int .i64 (D.aj (D.ar (LB o k) 2)),D.int .i64 (D.aj (D.ar (LB o k) 3)),D.int .i64 (D.aj (D.ar (LB o k) 4)),D.int .i64 (D.aj (D.ar (LB o k) 5)),D.str (D.eJ (D.ar (LB o k) 6)),D.bool (D.e9 (D.ar (LB o k) 7))])
def VK(o:List Pl)(k:Int):D:=D.nth (Zav o k) (Zc k)
theorem qgO(t:List Td)(o:List Pl)(m:Nat)(i k:Int)(ae:PX×S->Prop):(bif Zr k then bif mC k m then bif Hl k o then bif qF o k then bif Zb k then bif wQ k m then bif decide (Zc k<sb o) then bif cD PR (104:TypeId) (LB o k) then∃(pG:Int) (r:Int) (aH:Int) (t':Int) (r':Int) (i':Int),[Jw o k,P.d (D.agg [D.int .i64 (D.aj (D.ar (LB o k) 0)),D.int .i64 (D.aj (D.ar (LB o k) 1)),D.int .i64 (D.aj (D.ar (LB o k) 2))])]=SE pG r aH t' r' i'/\Zx/\bif SD pG r aH t' r' i' then bif Zb k then bif Zb k then bif wQ k m then bif decide (Zc k<sb o) then bif cD PR (104:TypeId) (LB o k) then bif mC k m then bif Hl k o then bif qF o k then bif mC k m then bif Hl k o then bif qF o k then bif wQ k m then bif decide (Zc k<List.length (Zav o k)) then bif cD PR (104:TypeId) (VK o k) then bif Zb k then ae (PX.normal,S.mk 96 (JL t::JA m::rX i::Z8J k) [Ef t,(1,En.mk 0 none (Obj.arr (104:TypeId) false (List.set (Zav o k) (Zc k) (D.aW (D.agg [D.int .i64 (D.aj (D.ar (VK o k) 0)),D.int .i64 (D.aj (D.ar (VK o k) 1)),D.int .i64 (D.aj (D.ar (VK o k) 2)),D.int .i64 (D.aj (D.ar (VK o k) 3)),D.int .i64 (D.aj (D.ar (VK o k) 4)),D.int .i64 (D.aj (D.ar (VK o k) 5)),D.str (D.eJ (D.ar (VK o k) 6)),D.bool (D.e9 (D.ar (VK o k) 7))]) (Yc o k)))))]) else False else False else False else False else False else False else False else False else False else False else False else False else False else False else False else Zax ae t m i o else False else False else False else False else False else False else False else Zax ae t m i o)=(aG [(88,iS)] [] 55 14 (rpB t o m i k)) ae:=by kernel_rfl
def qd0:S->K (PX×S):=λs ae=> ∃t o x m i k,s=rpB t (o++[x]) m i k/\(k=(o.length:Int)/\m=o.length+1/\o.length<=1000000)/\ ∀o',o'=cL ltN o x->ae (.exit 2,rpA t o' i)
def ZaA(o:List Pl)(t:List Td)(i:Int):Nat:=jU o+List.length [D.agg (Zap t i)]
def Zaz(t:List Td)(i:Int):List P:=[P.d (D.agg [Zaj t i,Zak t i,Zal t i])]
def Zay(t:List Td)(o:List Pl)(i:Int):List (Nat×P):=JL t::(6,P.sl 1 0 (jU o))::ZL i
theorem qbg(t:List Td)(o:List Pl)(i:Int)(ae:PX×S->Prop):(bif decide (i<(↑(List.length t):Int)) then bif decide ((0:Int)<=i/\i<(↑(List.length t):Int)) then bif VI i t then bif cD PR (155:TypeId) (rZ t i) then bif D.aj (D.ar (rZ t i) 3)==(0:Int)&&(D.aj (D.ar (rZ t i) 4)==(0:Int)&&true)&&(D.aj (D.ar (rZ t i) 5)==(0:Int)&&true) then bif Zj i then ae (PX.normal,S.mk 96 (Zay t o i) (Ef t::Gx o)) else False else∃(l:List Pl) (x:av) (y:av),ti o::P.d (D.agg [Zam t i,Zan t i,Zao t i])::Zaz t i=ti l::um x::iU y/\Yd o=Yd l/\n0 l/\ ∀(b:Bool),b=within l x y->bif b then bif Zj i then ae (PX.normal,S.mk 96 (Zay t o i) (Ef t::Gx l)) else False else∃(au:List Pl) (x:av),ti o::Zaz t i=ti au::iU x/\Yd l=Yd au/\n0 au/\bif decide (eN au x>=(0:Int)) then bif decide ((0:Int)<=eN au x/\eN au x<(↑(jU o):Int)) then bif Z6W au x then bif cD PR (104:TypeId) (D9 au x) then bif decide ((0:Int)<=eN au x/\eN au x<(↑(jU o):Int)) then bif Z6W au x then bif cD PR (104:TypeId) (D9 au x) then bif Zj i then ae (PX.normal,S.mk 96 (Zay t o i) [Ef t,(1,En.mk 0 none (Obj.arr (104:TypeId) false (List.set (iv au) (Int.toNat (eN au x)) (D.aW (D.agg [D.int .i64 (D.aj (D.ar (D9 au x) 0)),D.int .i64 (D.aj (D.ar (D9 au x) 1)),D.int .i64 (D.aj (D.ar (D9 au x) 2)),D.int .i64 (D.aj (D.ar (D9 au x) 3)),D.int .i64 (D.aj (D.ar (D9 au x) 4)),D.int .i64 (D.aj (D.ar (D9 au x) 5)),D.str (D.eJ (D.ar (D9 au x) 6)),D.bool (D.e9 (D.ar (D9 au x) 7))]) [Zaj t i,Zak t i,Zal t i,Zam t i,Zan t i,Zao t i,D.str (D.eJ (D.ar (rZ t i) 9)),D.bool (D.e9 (D.ar (D9 au x) 7))]))))]) else False else False else False else False else False else False else False else bif Nat.ble (jU o) (sb au)&&aM (ZaA o t i) 72 then bif decide (Z9<=(↑(ZaA o t i):Int)-(1:Int)/\(↑(ZaA o t i):Int)-(1:Int)<=Za) then∃(pG:List Td) (aP:List Pl) (x:Pl) (m:Nat) (aH:Int) (k:Int),S.mk 96 [JL t,(6,P.sl 1 0 (ZaA o t i)),rX i,(10,P.d (D.int .i64 ((↑(ZaA o t i):Int)-(1:Int))))] [Ef t,(1,En.mk 0 none (Obj.arr (104:TypeId) false (List.take (jU o) (iv au)++[D.agg (Zap t i)])))]=S.mk 96 [JL pG,JA m,rX aH,(10,P.d (Zt k))] [Ef pG,(1,En.mk 0 none (Obj.arr (104:TypeId) false (List.map bK (aP++[x]))))]/\(k=(↑(jU aP):Int)/\m=jU aP+1/\n0 aP)/\ ∀(o':List Pl),o'=cL ltN aP x->bif Zj aH then ae (PX.normal,S.mk 96 (Zay pG o' aH) (Ef pG::Gx o')) else False else False else False else False else False else False else ae (PX.exit 0,S.mk 96 [(6,ti o)] (Hm o)))=(aG [(86,qdZ),(87,Gv)] [(14,ah (aO 55 14) qd0)] 55 4 (rpA t o i)) ae:=by kernel_rfl
def qd1:S->K (PX×S):=λs ae=> ∃t,s=rpA t [] 0/\t.length<=1000000/\ ∀o,o=NH t->ae (.exit 0,⟨96,[(6,.sl 0 0 o.length)],[(0,⟨0,none,pT false o⟩)]⟩)
def ZaB(t:List Td):S:=S.mk 96 (JL t::Z7V) [Ef t,(1,zC)]
theorem qiI(a:List av)(l:List Pl)(ae:P×List (Nat×En)->Prop):(∃(kF:List av) (au:List Pl),[lL a,lF l]=[lL kF,lF au]/\Zx/\(pS kF/\jU au=ib kF)/\ ∀(t:List Td),t=JD kF au-> ∃(pG:List Td),ZaB t=ZaB pG/\List.length pG<=1000000/\ ∀(o:List Pl),o=NH pG->ae (ti o,Hm o))=(aK [(85,qdY)] [(4,ah (aO 55 4) qd1)] 55 [cR a,eH l] []) ae:=by kernel_rfl
def qd2:br:=λps R ae=> ∃a l,ps=[cR a,eH l]/\R=[]/\(a.length<=1000000/\l.length=a.length)/\ ∀o,o=NH (JD a l)->ae (.sl 0 0 o.length,[(0,⟨0,none,pT false o⟩)])
theorem GJ(x:Td):cD PR 155 (nr x)=true:=by kernel_rfl
section
variable{X:XF}
theorem qgP:FD X 86 qdZ:=qa3.weaken λps R ae h=>by obtain⟨l,x,y,rfl,rfl,hm,hp⟩:=h;exact⟨false,l,x,y,rfl,rfl,hm,hp⟩
theorem YR:LD X 85 7 (ah (aO 85 7) qdV):=LD.idx (H:=[]) (hk:=[]) (by kernel_rfl) (by kernel_rfl) .nil .nil
 (A:=List av×List Pl×List Td×Int×av) (B:=Bool) (λa b k=>rsB a.1 a.2.1 a.2.2.1 a.2.2.2.1 b k) (λa=>a.2.2.1.length) (λa k b=>(a.2.2.1.length<=1000000/\0<=a.2.2.2.1/\a.2.2.2.1<a.1.length/\D.nth (a.1.map bE) a.2.2.2.1.toNat=bE a.2.2.2.2)/\b=((a.2.2.1.take k).any λx=>x.1==a.2.2.2.2))
 (λa x=>x=(.exit 2,⟨93,[(0,cR a.1),(1,eH a.2.1),(5,.sl 0 0 a.2.2.1.length),(6,iD a.2.2.2.1),(7,.d (.bool (a.2.2.1.any λx=>x.1==a.2.2.2.2)))],[(0,⟨0,none,qK false a.2.2.1⟩)]⟩))
 (by
  rintro⟨a,l,t,i,y⟩ b k ae h0 tG dQ ⟨⟨hm,oN,bQ,hy⟩,hb⟩ hn ho
  try dsimp only at*
  (rw[<-qbe];delta gh vA Zg gu I6 I7 I8 wJ pL vp Na rZ VI Ef VJ Zn qG ZO Zt ZK JL iv lF Eg lL DB Za Z9 Zj)
  have e1:D.nth (t.map nr) k.toNat=nr t[k.toNat]:=aA _ _ _ dQ;have lM:(t.take (k.toNat+1)).any (λx=>x.1==y)=(b ||t[k.toNat].1==y):=by rw[zag dQ,zcg,hb];simp
  rw[e1,hy];generalize t[k.toNat]=z at*
  simp only[zaa];refine bM tG ?_;have v:(D.aj (D.ar (nr z) 0)==D.aj (D.ar (bE y) 0)&&(D.aj (D.ar (nr z) 1)==D.aj (D.ar (bE y) 1)&&true)&&(D.aj (D.ar (nr z) 2)==D.aj (D.ar (bE y) 2)&&true))=(z.1==y):=D1 z.1 y;rw[v];refine ay (λD2=>ao (by omega) (hn true ⟨⟨hm,oN,bQ,hy⟩,by rw[lM,D2,zca]⟩)) λBI=>ao ⟨h0,tG⟩ (ao (by first |exact dQ |simpa using dQ) (aq (GJ _) (ao ⟨oN,bQ⟩ (aq (lJ _) (ao (by omega) (hn _ ⟨⟨hm,oN,bQ,hy⟩,by rw[lM,BI,zbp]⟩)))))))
 (by
  rintro⟨a,l,t,i,y⟩ b k ae hk ⟨⟨hm,oN,bQ,hy⟩,hb⟩ ho
  try dsimp only at*
  (rw[<-qbe];delta gh vA Zg gu I6 I7 I8 wJ pL vp Na rZ VI Ef VJ Zn qG ZO Zt ZK JL iv lF Eg lL DB Za Z9 Zj)
  refine mq (by omega) (ho _ (λh=>by cases h) ?_);rw[hb,zak])
 (by rintro s ae ⟨a,l,t,i,hi,rfl,⟨h1,h2,h3⟩,hp⟩;refine⟨(a,l,t,i,a[i.toNat]),false,rfl,⟨⟨h1,h2,h3,aA _ _ _ hi⟩,by simp⟩,?_⟩;rintro x rfl;exact hp _ rfl)
theorem YS:LD X 85 13 (ah (aO 85 13) qdW):=LD.ins (H:=[(88,iS)]) (hk:=[]) (by kernel_rfl) (by kernel_rfl) (.cons mQ .nil) .nil
 (A:=List av×List Pl×Nat×Int) (α:=Td) (λa o k=>rsC a.1 a.2.1 o a.2.2.1 a.2.2.2 k) ltT (λa=>a.2.2.1) (λ_=>True) (λa o=>(.exit 4,⟨93,[(0,cR a.1),(1,eH a.2.1),(5,.sl 0 0 a.2.2.1),(6,iD a.2.2.2)],[(0,⟨0,none,qK false o⟩)]⟩)) (λ_ _ h=>by cases h)
 (by
  rintro⟨a,l,n,i⟩ o k ae _ h0 Hr lY hk hz b7 ec
  try dsimp only at*
  subst Hr
  (rw[<-qgM];delta Ef VJ Zt ZK JE Zg rZ Zao Zan Zam Zal Zak Zaj Zap Zaq Zs Z7Q ZB ZC iv lF Eg gu lL DB Zc GI Zar NT SD Zx ZE Hb SE wQ Za Z9 Zb VI mC Zr)
  refine cE (λhp=> ?_) λhp=>hz (by omega);have fV:k.toNat-1<o.length:=by omega
  have ek:(k-1).toNat=k.toNat-1:=by omega
  have e1:D.nth (o.map nr) k.toNat=nr o[k.toNat]:=aA _ _ _ hk;have e2:D.nth (o.map nr) (k.toNat-1)=nr o[k.toNat-1]:=aA _ _ _ fV;have b7:=b7 hp;have ec:=ec hp;have yW:=kB nr o k.toNat o[k.toNat] o[k.toNat-1];have e3: ∀z,D.nth ((o.map nr).set k.toNat z) (k.toNat-1)=nr o[k.toNat-1]:=λz=>by unfold D.nth;rw[zac,zaX (by omega)];simp[fV]
  rw[ek,e1,e2];simp only[e3];generalize o[k.toNat]=x at*
  generalize o[k.toNat-1]=y at*
  simp only[zaa,zbf] at ec⊢;have yX:0<=k/\k<(o.length:Int):=⟨h0,by omega⟩
  have yY:0<=k-1/\k-1<(o.length:Int):=⟨by omega,by omega⟩
  have hf:(-9223372036854775808:Int)<=k-1/\k-1<=9223372036854775807:=by omega
  refine ao yX (ao hk (aq (GJ _) (ao hf (ao yY (ao fV (aq (GJ _) ⟨(x.1).1,(x.1).2.1,(x.1).2.2,(y.1).1,(y.1).2.1,(y.1).2.2,rfl,rfl,cE (λh=> ?_) λh=>b7 (by rw[<-zaP];exact λh2=>h ((h9 (x.1) (y.1)).2 h2))⟩))))));have hy:=ec ((h9 (x.1) (y.1)).1 h);simp only[rsC,qK] at hy;rw[<-yW] at hy;refine ao hf (ao hf (ao yY (ao fV (aq (GJ _) (ao yX (ao hk (aq (GJ _) (ao yX (ao hk (aq (GJ _) (ao yY (ao fV (aq (GJ _) (ao hf ?_))))))))))))));exact hy)
 (by rintro s ae ⟨a,l,o,x,n,i,k,rfl,⟨hk,hn,ho⟩,hp⟩;refine⟨(a,l,n,i),o,x,k,rfl,hk,trivial,⟨hn.symm,ho⟩,?_⟩;have:=hp _ rfl;rw[rsA,lv,<-hn] at this;exact this)
theorem YT{a:List av}{l:List Pl}{i:Nat}(h:i<a.length)(h2:i<l.length):JD (a.take (i+1)) (l.take (i+1))=Vy (JD (a.take i) (l.take i)) (a[i],l[i]):=by unfold JD;rw[zag h,zag h2,List.zip_append (by rw[zay,zay];omega),za2];rfl
theorem YU:LD X 85 3 (ah (aO 85 3) qdX):=LD.idx (H:=[]) (hk:=[(7,ah (aO 85 7) qdV),(13,ah (aO 85 13) qdW)]) (by kernel_rfl) (by kernel_rfl) .nil (.cons YR (.cons YS .nil))
 (A:=List av×List Pl) (B:=List Td) (λa t i=>rsA a.1 a.2 t i) (λa=>a.1.length) (λa i t=>(a.1.length<=1000000/\a.2.length=a.1.length)/\t=JD (a.1.take i) (a.2.take i))
 (λa x=>x=(.exit 0,⟨93,[(5,.sl 0 0 (JD a.1 a.2).length)],[(0,⟨0,none,qK false (JD a.1 a.2)⟩)]⟩))
 (by
  rintro⟨a,l⟩ t i ae h0 bQ bj ⟨hm,ht⟩ hn ho
  try dsimp only at*
  rw[<-qbf];have qgQ:i.toNat<l.length:=by omega
  have htl:t.length<=i.toNat:=by have:=wR (a.take i.toNat) (l.take i.toNat);rw[zay] at this;rw[ht];omega
  have e1:D.nth (a.map bE) i.toNat=bE a[i.toNat]:=aA _ _ _ bj;have e2:D.nth (l.map bK) i.toNat=bK l[i.toNat]:=aA _ _ _ qgQ;have kC:=YT bj qgQ;rw[<-ht] at kC;have fS:=λt' (h:t'=Vy t (a[i.toNat],l[i.toNat]))=>hn t' ⟨hm,by rw[kC];exact h⟩;simp only[zaa];refine bM bQ (bM (by omega) ⟨a,l,t,i,bj,rfl,⟨by omega,h0,bQ⟩,λb hb=> ?_⟩);rw[e1,e2];generalize a[i.toNat]=x at*
  generalize l[i.toNat]=p at*
  refine ay (λD2=>ao (by omega) (fS t ?_)) λBI=> ?_
  ·unfold Vy;rw[zao (by rw[<-hb];exact D2)]
  have S6:Vy t (x,p)=cL ltT t (x,p):=by unfold Vy;rw[zam (by rw[<-hb,BI];simp)]
  have t1:List.take t.length (t.map nr)++[nr (x,p)]=(t++[(x,p)]).map nr:=cv nr t (x,p);simp only[zap,zat,zaG];refine ao ⟨h0,bQ⟩ (aq (lJ _) (ao ⟨h0,by omega⟩ (aq (hZ _) (aq ?_ (ao (by omega) ⟨a,l,t,(x,p),t.length+1,i,((t.length+1:Nat):Int)-1,congrArg (λz=>(⟨93,[(0,cR a),(1,eH l),(5,.sl 0 0 (t.length+1)),(6,iD i),(9,iD (((t.length+1:Nat):Int)-1))],[(0,⟨0,none,.arr 155 false z⟩)]⟩:S)) t1,⟨by omega,rfl,by omega⟩,λt' ht'=>ao (by omega) (fS t' (by rw[S6];exact ht'))⟩)))));rw[zab];exact⟨by simp,cq (by omega) (by omega)⟩)
 (by
  rintro⟨a,l⟩ t i ae hi ⟨hm,ht⟩ ho
  try dsimp only at*
  rw[<-qbf];refine mq (by simp only[zaa];omega) (ho _ (λh=>by cases h) ?_);rw[ht,zak,<-hm.2,zak])
 (by rintro s ae ⟨a,l,rfl,hm,hp⟩;refine⟨(a,l),[],rfl,⟨hm,rfl⟩,?_⟩;rintro x rfl;exact hp _ rfl)
theorem qgR:FD X 85 qdY:=FD.mk (H:=[]) (hk:=[(3,ah (aO 85 3) qdX)]) (by kernel_rfl) .nil (.cons YU .nil) (by
 intro ps R ae hh;obtain⟨a,l,rfl,rfl,hm,hp⟩:=hh
 (rw[<-qgN];delta Ef VJ ib jU pS Z7 Jy ZQ SZ iv lF Eg gu lL DB Zat)
 exact⟨a,l,rfl,hm,λt ht=>hp t ht⟩)
theorem YV:LD X 55 14 (ah (aO 55 14) qd0):=LD.ins (H:=[(88,iS)]) (hk:=[]) (by kernel_rfl) (by kernel_rfl) (.cons mQ .nil) .nil
 (A:=List Td×Nat×Int) (α:=Pl) (λa o k=>rpB a.1 o a.2.1 a.2.2 k) ltN (λa=>a.2.1) (λ_=>True) (λa o=>(.exit 2,⟨96,[(5,.sl 0 0 a.1.length),(6,.sl 1 0 a.2.1),(7,iD a.2.2)],[(0,⟨0,none,qK false a.1⟩),(1,⟨0,none,pT false o⟩)]⟩)) (λ_ _ h=>by cases h)
 (by
  rintro⟨t,m,i⟩ o k ae _ h0 Hr lY hk hz b7 ec
  try dsimp only at*
  subst Hr
  (rw[<-qgO];delta iv OE Gx Ef Zt rX JA JL Zax Zg ou Ny Nz NA Yc Zs Z8J Zc LB Zav VK SD Zx ZE Hb SE Jw sb wQ Za Z9 Zb qF Hl mC Zr)
  refine cE (λhp=> ?_) λhp=>hz (by omega);have fV:k.toNat-1<o.length:=by omega
  have ek:(k-1).toNat=k.toNat-1:=by omega
  have e1:D.nth (o.map bK) k.toNat=bK o[k.toNat]:=aA _ _ _ hk;have e2:D.nth (o.map bK) (k.toNat-1)=bK o[k.toNat-1]:=aA _ _ _ fV;have b7:=b7 hp;have ec:=ec hp;have yW:=kB bK o k.toNat o[k.toNat] o[k.toNat-1];have e3: ∀z,D.nth ((o.map bK).set k.toNat z) (k.toNat-1)=bK o[k.toNat-1]:=λz=>by unfold D.nth;rw[zac,zaX (by omega)];simp[fV]
  rw[ek,e1,e2];simp only[e3];generalize o[k.toNat]=x at*
  generalize o[k.toNat-1]=y at*
  simp only[zaa,zbf] at ec⊢;have yX:0<=k/\k<(o.length:Int):=⟨h0,by omega⟩
  have yY:0<=k-1/\k-1<(o.length:Int):=⟨by omega,by omega⟩
  have hf:(-9223372036854775808:Int)<=k-1/\k-1<=9223372036854775807:=by omega
  refine ao yX (ao hk (aq (hZ _) (ao hf (ao yY (ao fV (aq (hZ _) ⟨(x.1).1,(x.1).2.1,(x.1).2.2,(y.1).1,(y.1).2.1,(y.1).2.2,rfl,rfl,cE (λh=> ?_) λh=>b7 (by rw[<-zaP];exact λh2=>h ((h9 (x.1) (y.1)).2 h2))⟩))))));have hy:=ec ((h9 (x.1) (y.1)).1 h);simp only[rpB,pT,qK] at hy;rw[<-yW] at hy;refine ao hf (ao hf (ao yY (ao fV (aq (hZ _) (ao yX (ao hk (aq (hZ _) (ao yX (ao hk (aq (hZ _) (ao yY (ao fV (aq (hZ _) (ao hf ?_))))))))))))));exact hy)
 (by rintro s ae ⟨t,o,x,m,i,k,rfl,⟨hk,hn,ho⟩,hp⟩;refine⟨(t,m,i),o,x,k,rfl,hk,trivial,⟨hn.symm,ho⟩,?_⟩;have:=hp _ rfl;rw[rpA,lv,<-hn] at this;exact this)
theorem YW{t:List Td}{i:Nat}(h:i<t.length):NH (t.take (i+1))=SN (NH (t.take i)) t[i]:=by unfold NH;rw[zag h,za2];rfl
theorem YX:LD X 55 4 (ah (aO 55 4) qd1):=LD.idx (H:=[(86,qdZ),(87,Gv)]) (hk:=[(14,ah (aO 55 14) qd0)]) (by kernel_rfl) (by kernel_rfl) (.cons qgP (.cons SG .nil)) (.cons YV .nil)
 (A:=List Td) (B:=List Pl) (λt o i=>rpA t o i) (λt=>t.length) (λt i o=>t.length<=1000000/\o=NH (t.take i))
 (λt x=>x=(.exit 0,⟨96,[(6,.sl 0 0 (NH t).length)],[(0,⟨0,none,pT false (NH t)⟩)]⟩))
 (by
  rintro t o i ae h0 bQ bj ⟨hm,ho⟩ hn bw
  (rw[<-qbg];delta iv OE Hm Zt JA Zg rZ Zao Zan Zam Zal Zak Zaj Zap rX JL Za Z9 jU ZaA sb D9 Z6W n0 Yd gR gP ia gC gD um iU Zaz ti Gx Ef Zn ZL Zay Zj VI)
  have lY:o.length<=i.toNat:=by have:=DF (t.take i.toNat);rw[zay] at this;rw[ho];omega
  have e1:D.nth (t.map nr) i.toNat=nr t[i.toNat]:=aA _ _ _ bj;have kC:=YW bj;rw[<-ho] at kC;have fS:=λo' (h:o'=SN o t[i.toNat])=>hn o' ⟨hm,by rw[kC];exact h⟩;rw[e1];generalize t[i.toNat]=y at*
  have v:(D.aj (D.ar (nr y) 3)==0&&(D.aj (D.ar (nr y) 4)==0&&true)&&(D.aj (D.ar (nr y) 5)==0&&true))=(y.2.1==aB):=D1 y.2.1 aB;have qiJ:i.toNat<(t.map nr).length:=by rw[zaa];exact bj
  rw[v];simp only[zap,zat,zaG];refine bM bQ (ao ⟨h0,bQ⟩ (ao qiJ (aq (GJ _) ?_)));refine ay (λhr=>ao (by omega) (fS o ?_)) λhr=>⟨o,y.2.2.1,y.2.1,rfl,rfl,by omega,λb hb=>ay (λD2=>ao (by omega) (fS o ?_)) λBI=>⟨o,y.2.1,rfl,rfl,by omega,cE (λEE=> ?_) λEE=> ?_⟩⟩
  ·unfold SN;rw[zao (.inl (by simpa using hr))]
  ·unfold SN;rw[zao (.inr (by rw[<-hb];exact D2))]
  ·have b7: ¬(y.2.1=aB\/within o y.2.2.1 y.2.1=true):=λhh=>hh.elim (λe=>by rw[e] at hr;simp at hr) (λe=>by rw[<-hb,BI] at e;cases e);have BD:(eN o y.2.1).toNat<o.length:=by
    rcases rW (λp:Pl=>p.1==y.2.1) o with⟨k,p,h2,h3,h4⟩| ⟨h2,h3⟩
    ·have hk:k<o.length:=(zad.1 h2).1;have e:eN o y.2.1=(k:Int):=h4;omega
    have e:eN o y.2.1= -1:=h2;omega
   have Kn:(eN o y.2.1).toNat<(o.map bK).length:=by rw[zaa];exact BD
   have hy:=fS (o.set (eN o y.2.1).toNat (y.2.1,y.2.2.1,y.2.2.2.1,(o.getD (eN o y.2.1).toNat sV).2.2.2)) (by unfold SN;rw[zam b7,zao EE]);rw[iT BD];generalize o.getD (eN o y.2.1).toNat sV=q at*
   simp only[rpA,pT,qK,zb1,zbf] at hy;refine ao ⟨EE,by omega⟩ (ao Kn (aq (hZ _) (ao ⟨EE,by omega⟩ (ao Kn (aq (hZ _) (ao (by omega) ?_))))));exact hy
  have b7: ¬(y.2.1=aB\/within o y.2.2.1 y.2.1=true):=λhh=>hh.elim (λe=>by rw[e] at hr;simp at hr) (λe=>by rw[<-hb,BI] at e;cases e);have t1:List.take o.length (o.map bK)++[bK y.2]=(o++[y.2]).map bK:=cv bK o y.2;refine aq ?_ (ao (by omega) ⟨t,o,y.2,o.length+1,i,((o.length+1:Nat):Int)-1,congrArg (λz=>(⟨96,[(5,.sl 0 0 t.length),(6,.sl 1 0 (o.length+1)),(7,iD i),(10,iD (((o.length+1:Nat):Int)-1))],[(0,⟨0,none,qK false t⟩),(1,⟨0,none,.arr 104 false z⟩)]⟩:S)) t1,⟨by omega,rfl,by omega⟩,λo' gb=>ao (by omega) (fS o' (by unfold SN;rw[zam b7,zam EE];exact gb))⟩);rw[zab];exact⟨by simp,cq (by omega) (by omega)⟩)
 (by
  rintro t o i ae hi ⟨hm,ho⟩ bw
  (rw[<-qbg];delta iv OE Hm Zt JA Zg rZ Zao Zan Zam Zal Zak Zaj Zap rX JL Za Z9 jU ZaA sb D9 Z6W n0 Yd gR gP ia gC gD um iU Zaz ti Gx Ef Zn ZL Zay Zj VI)
  refine mq (by first |omega | (simp only[zaa];omega)) (bw _ (λh=>by cases h) ?_);rw[ho,zak])
 (by rintro s ae ⟨t,rfl,hm,hp⟩;refine⟨t,[],rfl,⟨hm,rfl⟩,?_⟩;rintro x rfl;exact hp _ rfl)
theorem qgS:FD X 55 qd2:=FD.mk (H:=[(85,qdY)]) (hk:=[(4,ah (aO 55 4) qd1)]) (by kernel_rfl) (.cons qgR .nil) (.cons YX .nil) (by
 intro ps R ae hh;obtain⟨a,l,rfl,rfl,hm,hp⟩:=hh
 (rw[<-qiI];delta iv OE Hm jU ti zC Ef Z7 rI zD Z7V JL ZaB ib pS Zx lF gu lL)
 have:=wR a l;exact⟨a,l,rfl,rfl,hm,λt ht=>⟨t,rfl,by rw[ht];omega,λo ho=>hp o (by rw[ho,ht])⟩⟩)
end
end Pi
