/- The texts Rp RpH Rm RmH Hi6 Hi6H Ro Vw2 Vw2H RoH HgP ElP GnP Gn2 Gn1 Gn1H Gn2H Gn3 Iv1 Iv1H Iv2 Iv2H CmI Pb1 Pb1H PbP Pb2 Pb2H LiP Li1 Li1H TellP Iv3 Iv3H. -/
import Derived.Test.YtdgkdigdflkjhaaGreatDoorEbv
namespace Pi
open Go Go.Proofs
set_option maxRecDepth 100000
set_option maxHeartbeats 0
def rQ(x:Td):D:= .agg [iE x.1.1,iE x.1.2.1,iE x.1.2.2,iE x.2.1.1,iE x.2.1.2.1,iE x.2.1.2.2,iE x.2.2.1.1,iE x.2.2.1.2.1,iE x.2.2.1.2.2,.str x.2.2.2.1,.bool x.2.2.2.2]
abbrev sb(z:Bool)(l:List Td):Obj:= .arr 186 z (l.map rQ)
abbrev rsA(a:List ao)(l:List Pl)(s:List Td)(i:Int):S:=⟨93,[(0,ct a),(1,dD l),(5,.sl 0 0 s.length),(6,iD i)],[(0,⟨0,none,sb false s⟩)]⟩
abbrev rsB(a:List ao)(l:List Pl)(s:List Td)(i:Int)(h:Bool)(k:Int):S:=⟨93,[(0,ct a),(1,dD l),(5,.sl 0 0 s.length),(6,iD i),(7,.d (.bool h)),(8,iD k)],[(0,⟨0,none,sb false s⟩)]⟩
abbrev rsC(a:List ao)(l:List Pl)(s:List Td)(n:Nat)(i k:Int):S:=⟨93,[(0,ct a),(1,dD l),(5,.sl 0 0 n),(6,iD i),(9,iD k)],[(0,⟨0,none,sb false s⟩)]⟩
def tY s k:=D.nth (List.map rQ s) (Ze k)
def ZaO k s:=decide (Ze k<List.length (List.map rQ s))
def nX(s:List Td):=List.length s
def ZaN k s:=decide ((0:Int)<=k/\k<(↑(nX s):Int))
def EG s:=(0,En.mk 0 none (Obj.arr (186:TypeId) false (List.map rQ s)))
def Ke s:=[EG s]
def xV s:=(5,P.sl 0 0 (nX s))
def qi l:=(1,im l)
def ZaI k s:=decide (k<(↑(nX s):Int))
theorem qeE a l s i h k ae:(bif ZaI k s then bif h then ob (Zh k) (ae (PX.normal,S.mk 93 (xP a::qi l::xV s::ZI i::(7,ZL)::rN k) (Ke s))) else ob (ZaN k s) (ob (ZaO k s) (ob (bO PR (186:TypeId) (tY s k)) (ob (Hm i a) (ob (q9 a i) (ob (Zh k) (ae (PX.normal,S.mk 93 (xP a::qi l::xV s::ZI i::(7,P.d (D.bool (D.aj (D.au (tY s k) 0)==A4 a i&&(D.aj (D.au (tY s k) 1)==BW a i&&true)&&(D.aj (D.au (tY s k) 2)==BV a i&&true))))::rN k) (Ke s)))))))) else ae (PX.exit 2,S.mk 93 [xP a,qi l,xV s,ZI i,yr h] (Ke s)))=(aD [] [] 95 7 (rsB a l s i h k)) ae:=by kernel_rfl
def qkT:S->K (PX×S):=λs ae=> ∃a l t i hi,s=rsB a l t i false 0/\(t.length<=1000000/\0<=i/\i<a.length)/\ ∀b,b=(t.any λx=>x.1==a[i.toNat])->ae (.exit 2,⟨93,[(0,ct a),(1,dD l),(5,.sl 0 0 t.length),(6,iD i),(7,.d (.bool b))],[(0,⟨0,none,sb false t⟩)]⟩)
def ZaW s k:=D.int .i64 (D.aj (D.au (tY s k) 8))
def ZaV s k:=D.int .i64 (D.aj (D.au (tY s k) 7))
def ZaU s k:=D.int .i64 (D.aj (D.au (tY s k) 6))
def ZaT s k:=D.int .i64 (D.aj (D.au (tY s k) 5))
def ZaS s k:=D.int .i64 (D.aj (D.au (tY s k) 4))
def ZaR s k:=D.int .i64 (D.aj (D.au (tY s k) 3))
def ZaX s k:=[ZaR s k,ZaS s k,ZaT s k,ZaU s k,ZaV s k,ZaW s k,D.str (D.cJ (D.au (tY s k) 9)),D.bool (D.dp (D.au (tY s k) 10))]
def ZaY s k:=D.int .i64 (D.aj (D.au (tY s k) 0))::D.int .i64 (D.aj (D.au (tY s k) 1))::D.int .i64 (D.aj (D.au (tY s k) 2))::ZaX s k
def Kf s k:=D.nth (List.map rQ s) (Za k)
def ZaZ s k:=List.set (List.map rQ s) (Ze k) (D.aT (D.agg (ZaY s k)) [D.int .i64 (D.aj (D.au (Kf s k) 0)),D.int .i64 (D.aj (D.au (Kf s k) 1)),D.int .i64 (D.aj (D.au (Kf s k) 2)),D.int .i64 (D.aj (D.au (Kf s k) 3)),D.int .i64 (D.aj (D.au (Kf s k) 4)),D.int .i64 (D.aj (D.au (Kf s k) 5)),D.int .i64 (D.aj (D.au (Kf s k) 6)),D.int .i64 (D.aj (D.au (Kf s k) 7)),D.int .i64 (D.aj (D.au (Kf s k) 8)),D.str (D.cJ (D.au (Kf s k) 9)),D.bool (D.dp (D.au (Kf s k) 10))])
def RY s k:=D.nth (ZaZ s k) (Za k)
theorem qkU a l s n i k ae:(bif Zr k then ob (ke k n) (ob (ZaO k s) (ob (bO PR (186:TypeId) (tY s k)) (ob (Z9 k) (ob (zg k n) (ob (decide (Za k<List.length (List.map rQ s))) (ob (bO PR (186:TypeId) (Kf s k)) (∃t r bg t' r' i',[P.d (D.agg [D.int .i64 (D.aj (D.au (tY s k) 0)),D.int .i64 (D.aj (D.au (tY s k) 1)),D.int .i64 (D.aj (D.au (tY s k) 2))]),P.d (D.agg [D.int .i64 (D.aj (D.au (Kf s k) 0)),D.int .i64 (D.aj (D.au (Kf s k) 1)),D.int .i64 (D.aj (D.au (Kf s k) 2))])]=P.d (D.agg (Zt t::Zt r::ZE bg))::ZZ t' r' i'/\Zx/\bif W4 t r bg t' r' i' then ob (Z9 k) (ob (Z9 k) (ob (zg k n) (ob (decide (Za k<List.length (List.map rQ s))) (ob (bO PR (186:TypeId) (Kf s k)) (ob (ke k n) (ob (ZaO k s) (ob (bO PR (186:TypeId) (tY s k)) (ob (ke k n) (ob (ZaO k s) (ob (bO PR (186:TypeId) (tY s k)) (ob (zg k n) (ob (decide (Za k<List.length (ZaZ s k))) (ob (bO PR (186:TypeId) (RY s k)) (ob (Z9 k) (ae (PX.normal,S.mk 93 (xP a::qi l::ZC n::ZI i::Z9b k) [(0,En.mk 0 none (Obj.arr (186:TypeId) false (List.set (ZaZ s k) (Za k) (D.aT (D.agg [D.int .i64 (D.aj (D.au (RY s k) 0)),D.int .i64 (D.aj (D.au (RY s k) 1)),D.int .i64 (D.aj (D.au (RY s k) 2)),D.int .i64 (D.aj (D.au (RY s k) 3)),D.int .i64 (D.aj (D.au (RY s k) 4)),D.int .i64 (D.aj (D.au (RY s k) 5)),D.int .i64 (D.aj (D.au (RY s k) 6)),D.int .i64 (D.aj (D.au (RY s k) 7)),D.int .i64 (D.aj (D.au (RY s k) 8)),D.str (D.cJ (D.au (RY s k) 9)),D.bool (D.dp (D.au (RY s k) 10))]) (ZaY s k)))))])))))))))))))))) else ae (PX.exit 4,S.mk 93 (xP a::qi l::ZC n::EC i) (Ke s))))))))) else ae (PX.exit 4,S.mk 93 (xP a::qi l::ZC n::EC i) (Ke s)))=(aD [(98,l5)] [] 95 13 (rsC a l s n i k)) ae:=by kernel_rfl
def qkV:S->K (PX×S):=λs ae=> ∃a l t x n i k,s=rsC a l (t++[x]) n i k/\(k=(t.length:Int)/\n=t.length+1/\t.length<=1000000)/\ ∀t',t'=cq RT t x->ae (.exit 4,rsA a l t' i)
def Zb3 mP bg av:=[D.agg (D.int .i64 (A4 mP bg)::D.int .i64 (BW mP bg)::D.int .i64 (BV mP bg)::GB av bg)]
def PB t:=nX t<=1000000
def Zb1 mP av t bg:=S.mk 93 (xP mP::qi av::xV t::ZI bg::(7,P.d Z2)::wQ) (Ke t)
theorem qeF a l s i ae:(bif SJ i a then bif Pa i l then∃mP av t bg hi,Zb1 a l s i=Zb1 mP av t bg/\(PB t/\(0:Int)<=bg/\bg<ky mP)/\ ∀b,(b=List.any t λx=>Prod.fst x==mP[Int.toNat bg])->bif b then ob (Zh bg) (ae (PX.normal,S.mk 93 (xP mP::qi av::xV t::ZA bg) (Ke t))) else ob (Hm bg mP) (ob (q9 mP bg) (ob (BU bg av) (ob (nb av bg) (ob (Nat.ble (nX t) (List.length (List.map rQ t))&&aG (nX t+List.length (Zb3 mP bg av)) 96) (ob (decide (Z7<=(↑(nX t+List.length (Zb3 mP bg av)):Int)-(1:Int)/\(↑(nX t+List.length (Zb3 mP bg av)):Int)-(1:Int)<=Z8)) (∃a l js x n i k,S.mk 93 [xP mP,qi av,(5,P.sl 0 0 (nX t+List.length (Zb3 mP bg av))),ZI bg,(9,P.d (D.int .i64 ((↑(nX t+List.length (Zb3 mP bg av)):Int)-(1:Int))))] [(0,En.mk 0 none (Obj.arr (186:TypeId) false (List.take (nX t) (List.map rQ t)++Zb3 mP bg av)))]=S.mk 93 (xP a::qi l::ZC n::ZI i::Z9f k) [(0,En.mk 0 none (Obj.arr (186:TypeId) false (List.map rQ (js++[x]))))]/\(k=(↑(nX js):Int)/\n=nX js+1/\PB js)/\ ∀t',t'=cq RT js x->ob (Zh i) (ae (PX.normal,S.mk 93 (xP a::qi l::xV t'::ZA i) (Ke t'))))))))) else ae (PX.exit 0,S.mk 93 [xV s] (Ke s)) else ae (PX.exit 0,S.mk 93 [xV s] (Ke s)))=(aD [] [(7,ah (aR 95 7) qkT),(13,ah (aR 95 13) qkV)] 95 3 (rsA a l s i)) ae:=by kernel_rfl
def qkW:S->K (PX×S):=λs ae=> ∃a l,s=rsA a l [] 0/\(a.length<=1000000/\l.length=a.length)/\ ∀t,t=M6 a l->ae (.exit 0,⟨93,[(5,.sl 0 0 t.length)],[(0,⟨0,none,sb false t⟩)]⟩)
def Zb4 mP av:=S.mk 93 (xP mP::qi av::Xg) [(0,En.mk 0 none (Obj.arr (186:TypeId) false []))]
theorem qkX a l ae:(∃mP av,Zb4 a l=Zb4 mP av/\(j8 mP/\fo av=dH mP)/\ ∀t,t=M6 mP av->ae (P.sl 0 0 (nX t),Ke t))=(aI [] [(3,ah (aR 95 3) qkW)] 95 [ct a,dD l] []) ae:=by kernel_rfl
def qkY:a8:=λps R ae=> ∃a l,ps=[ct a,dD l]/\R=[]/\(a.length<=1000000/\l.length=a.length)/\ ∀t,t=M6 a l->ae (.sl 0 0 t.length,[(0,⟨0,none,sb false t⟩)])
def qkZ:a8:=λps R ae=> ∃l x y,ps=[.sl 0 0 l.length,.d (aL x),.d (aL y)]/\R=EB false l/\l.length<=1000000/\ ∀b,b=within l x y->ae (.d (.bool b),EB false l)
abbrev rpA(t:List Td)(o:List Pl)(i:Int):S:=⟨96,[(5,.sl 0 0 t.length),(6,.sl 1 0 o.length),(7,iD i)],[(0,⟨0,none,sb false t⟩),(1,⟨0,none,rh false o⟩)]⟩
abbrev rpB(t:List Td)(o:List Pl)(m:Nat)(i k:Int):S:=⟨96,[(5,.sl 0 0 t.length),(6,.sl 1 0 m),(7,iD i),(10,iD k)],[(0,⟨0,none,sb false t⟩),(1,⟨0,none,rh false o⟩)]⟩
def Zb8(ae:PX×S->Prop) t m i o:=ae (PX.exit 2,S.mk 96 [xV t,M3 m,qo i] (EG t::J6 o))
def PC o k:=D.nth (eu o) (Za k)
def Zb6 o k:=List.set (eu o) (Ze k) (D.aT (D.agg (GB o k)) [D.int .i64 (D.aj (D.au (PC o k) 0)),D.int .i64 (D.aj (D.au (PC o k) 1)),D.int .i64 (D.aj (D.au (PC o k) 2)),D.int .i64 (D.aj (D.au (PC o k) 3)),D.int .i64 (D.aj (D.au (PC o k) 4)),D.int .i64 (D.aj (D.au (PC o k) 5)),D.str (D.cJ (D.au (PC o k) 6)),D.bool (D.dp (D.au (PC o k) 7))])
def Zb7 o k:=D.nth (Zb6 o k) (Za k)
theorem qk0 t o m i k ae:(bif Zr k then ob (ke k m) (ob (Cb k o) (ob (nb o k) (ob (Z9 k) (ob (zg k m) (ob (decide (Za k<nQ o)) (ob (bO PR (108:TypeId) (PC o k)) (∃js r bg t' r' i',[VA o k,P.d (D.agg [D.int .i64 (D.aj (D.au (PC o k) 0)),D.int .i64 (D.aj (D.au (PC o k) 1)),D.int .i64 (D.aj (D.au (PC o k) 2))])]=P.d (D.agg (Zt js::Zt r::ZE bg))::ZZ t' r' i'/\Zx/\bif W4 js r bg t' r' i' then ob (Z9 k) (ob (Z9 k) (ob (zg k m) (ob (decide (Za k<nQ o)) (ob (bO PR (108:TypeId) (PC o k)) (ob (ke k m) (ob (Cb k o) (ob (nb o k) (ob (ke k m) (ob (Cb k o) (ob (nb o k) (ob (zg k m) (ob (decide (Za k<List.length (Zb6 o k))) (ob (bO PR (108:TypeId) (Zb7 o k)) (ob (Z9 k) (ae (PX.normal,S.mk 96 [xV t,M3 m,qo i,(10,Zs k)] [EG t,(1,En.mk 0 none (Obj.arr (108:TypeId) false (List.set (Zb6 o k) (Za k) (D.aT (D.agg [D.int .i64 (D.aj (D.au (Zb7 o k) 0)),D.int .i64 (D.aj (D.au (Zb7 o k) 1)),D.int .i64 (D.aj (D.au (Zb7 o k) 2)),D.int .i64 (D.aj (D.au (Zb7 o k) 3)),D.int .i64 (D.aj (D.au (Zb7 o k) 4)),D.int .i64 (D.aj (D.au (Zb7 o k) 5)),D.str (D.cJ (D.au (Zb7 o k) 6)),D.bool (D.dp (D.au (Zb7 o k) 7))]) (GB o k)))))])))))))))))))))) else Zb8 ae t m i o))))))) else Zb8 ae t m i o)=(aD [(98,l5)] [] 56 14 (rpB t o m i k)) ae:=by kernel_rfl
def qk1:S->K (PX×S):=λs ae=> ∃t o x m i k,s=rpB t (o++[x]) m i k/\(k=(o.length:Int)/\m=o.length+1/\o.length<=1000000)/\ ∀o',o'=cq ltN o x->ae (.exit 2,rpA t o' i)
def Zba o t i:=fo o+List.length [D.agg (ZaX t i)]
def Zbb t i:=[P.d (D.agg [ZaR t i,ZaS t i,ZaT t i])]
def Zb9 t o i:=xV t::(6,P.sl 1 0 (fo o))::ZJ i
theorem qeG t o i ae:(bif ZaI i t then ob (ZaN i t) (ob (ZaO i t) (ob (bO PR (186:TypeId) (tY t i)) (bif D.aj (D.au (tY t i) 3)==(0:Int)&&(D.aj (D.au (tY t i) 4)==(0:Int)&&true)&&(D.aj (D.au (tY t i) 5)==(0:Int)&&true) then ob (Zh i) (ae (PX.normal,S.mk 96 (Zb9 t o i) (EG t::J6 o))) else∃l x y,oS o::P.d (D.agg [ZaU t i,ZaV t i,ZaW t i])::Zbb t i=oS l::P.d (gS x)::gA y/\SX o=SX l/\gx l/\ ∀b,b=within l x y->bif b then ob (Zh i) (ae (PX.normal,S.mk 96 (Zb9 t o i) (EG t::J6 l))) else∃av x,oS o::Zbb t i=oS av::gA x/\SX l=SX av/\gx av/\bif decide (dR av x>=(0:Int)) then ob (decide ((0:Int)<=dR av x/\dR av x<pV o)) (ob (Z8m av x) (ob (bO PR (108:TypeId) (Hu av x)) (ob (decide ((0:Int)<=dR av x/\dR av x<pV o)) (ob (Z8m av x) (ob (bO PR (108:TypeId) (Hu av x)) (ob (Zh i) (ae (PX.normal,S.mk 96 (Zb9 t o i) [EG t,(1,En.mk 0 none (Obj.arr (108:TypeId) false (List.set (eu av) (Int.toNat (dR av x)) (D.aT (D.agg [D.int .i64 (D.aj (D.au (Hu av x) 0)),D.int .i64 (D.aj (D.au (Hu av x) 1)),D.int .i64 (D.aj (D.au (Hu av x) 2)),D.int .i64 (D.aj (D.au (Hu av x) 3)),D.int .i64 (D.aj (D.au (Hu av x) 4)),D.int .i64 (D.aj (D.au (Hu av x) 5)),D.str (D.cJ (D.au (Hu av x) 6)),D.bool (D.dp (D.au (Hu av x) 7))]) [ZaR t i,ZaS t i,ZaT t i,ZaU t i,ZaV t i,ZaW t i,D.str (D.cJ (D.au (tY t i) 9)),D.bool (D.dp (D.au (Hu av x) 7))]))))])))))))) else ob (Nat.ble (fo o) (nQ av)&&aG (Zba o t i) 72) (ob (decide (Z7<=(↑(Zba o t i):Int)-(1:Int)/\(↑(Zba o t i):Int)-(1:Int)<=Z8)) (∃js bq x m bg k,S.mk 96 [xV t,(6,P.sl 1 0 (Zba o t i)),qo i,(10,P.d (D.int .i64 ((↑(Zba o t i):Int)-(1:Int))))] [EG t,(1,En.mk 0 none (Obj.arr (108:TypeId) false (List.take (fo o) (eu av)++[D.agg (ZaX t i)])))]=S.mk 96 [xV js,M3 m,qo bg,(10,P.d (Zt k))] [EG js,(1,En.mk 0 none (Obj.arr (108:TypeId) false (List.map bn (bq++[x]))))]/\(k=pV bq/\m=fo bq+1/\gx bq)/\ ∀o',o'=cq ltN bq x->ob (Zh bg) (ae (PX.normal,S.mk 96 (Zb9 js o' bg) (EG js::J6 o')))))))) else ae (PX.exit 0,S.mk 96 [(6,oS o)] (r7 o)))=(aD [(96,qkZ),(97,W2)] [(14,ah (aR 56 14) qk1)] 56 4 (rpA t o i)) ae:=by kernel_rfl
def qk2:S->K (PX×S):=λs ae=> ∃t,s=rpA t [] 0/\t.length<=1000000/\ ∀o,o=r8 t->ae (.exit 0,⟨96,[(6,.sl 0 0 o.length)],[(0,⟨0,none,rh false o⟩)]⟩)
def Zbc js:=S.mk 96 (xV js::Z9g) [EG js,(1,xQ)]
theorem qob a l ae:(∃mP av,[gR a,im l]=[gR mP,im av]/\Zx/\(j8 mP/\fo av=dH mP)/\ ∀t,t=M6 mP av-> ∃js,Zbc t=Zbc js/\PB js/\ ∀o,o=r8 js->ae (oS o,r7 o))=(aI [(95,qkY)] [(4,ah (aR 56 4) qk2)] 56 [ct a,dD l] []) ae:=by kernel_rfl
def qk3:a8:=λps R ae=> ∃a l,ps=[ct a,dD l]/\R=[]/\(a.length<=1000000/\l.length=a.length)/\ ∀o,o=r8 (M6 a l)->ae (.sl 0 0 o.length,[(0,⟨0,none,rh false o⟩)])
theorem Kg x:bO PR 186 (rQ x)=true:=by kernel_rfl
section
variable{X:XF}
theorem qk4:FD X 96 qkZ:=qel.weaken λps R ae h=>by obtain⟨l,x,y,rfl,rfl,hm,hp⟩:=h;exact⟨false,l,x,y,rfl,rfl,hm,hp⟩
theorem qcH:LD X 95 7 (ah (aR 95 7) qkT):=LD.idx (by kernel_rfl) (by kernel_rfl) .nil .nil
 (A:=List ao×List Pl×List Td×Int×ao) (B:=Bool) (λa b k=>rsB a.1 a.2.1 a.2.2.1 a.2.2.2.1 b k) (λa=>a.2.2.1.length) (λa k b=>(a.2.2.1.length<=1000000/\0<=a.2.2.2.1/\a.2.2.2.1<a.1.length/\D.nth (a.1.map aL) a.2.2.2.1.toNat=aL a.2.2.2.2)/\b=((a.2.2.1.take k).any λx=>x.1==a.2.2.2.2))
 (λa x=>x=(.exit 2,⟨93,[(0,ct a.1),(1,dD a.2.1),(5,.sl 0 0 a.2.2.1.length),(6,iD a.2.2.2.1),(7,.d (.bool (a.2.2.1.any λx=>x.1==a.2.2.2.2)))],[(0,⟨0,none,sb false a.2.2.1⟩)]⟩))
 (by
  rintro⟨a,l,t,i,y⟩ b k ae h0 wc eD ⟨⟨hm,ql,bJ,hy⟩,hb⟩ hn ho
  try dsimp only at*
  (rw[<-qeE];delta fk yr Ze dW BV BW A4 q9 kU uU Hm tY ZaO nX ZaN EG Ke Zl Zm rN ZL Zt ZI xV eu im qi gR xP Z8 Z7 Zh ZaI)
  have e1:D.nth (t.map rQ) k.toNat=rQ t[k.toNat]:=az _ _ _ eD;have nq:(t.take (k.toNat+1)).any (λx=>x.1==y)=(b ||t[k.toNat].1==y):=by rw[zaf eD,zck,hb];simp
  rw[e1,hy];generalize t[k.toNat]=z at*
  simp only[zaa];refine bF wc ?_;have v:(D.aj (D.au (rQ z) 0)==D.aj (D.au (aL y) 0)&&(D.aj (D.au (rQ z) 1)==D.aj (D.au (aL y) 1)&&true)&&(D.aj (D.au (rQ z) 2)==D.aj (D.au (aL y) 2)&&true))=(z.1==y):=Ho z.1 y;rw[v];refine ay (λHp=>ak (by omega) (hn true ⟨⟨hm,ql,bJ,hy⟩,by rw[nq,Hp,zcr]⟩)) λED=>ak ⟨h0,wc⟩ (ak (by first |exact eD |simpa using eD) (aq (Kg _) (ak ⟨ql,bJ⟩ (aq (ga _) (ak (by omega) (hn _ ⟨⟨hm,ql,bJ,hy⟩,by rw[nq,ED,zby]⟩)))))))
 (by
  rintro⟨a,l,t,i,y⟩ b k ae hk ⟨⟨hm,ql,bJ,hy⟩,hb⟩ ho
  try dsimp only at*
  (rw[<-qeE];delta fk yr Ze dW BV BW A4 q9 kU uU Hm tY ZaO nX ZaN EG Ke Zl Zm rN ZL Zt ZI xV eu im qi gR xP Z8 Z7 Zh ZaI)
  refine mD (by omega) (ho _ (λh=>by cases h) ?_);rw[hb,zai])
 (by rintro s ae ⟨a,l,t,i,hi,rfl,⟨h1,h2,h3⟩,hp⟩;refine⟨(a,l,t,i,a[i.toNat]),false,rfl,⟨⟨h1,h2,h3,az _ _ _ hi⟩,by simp⟩,?_⟩;rintro x rfl;exact hp _ rfl)
theorem qcI:LD X 95 13 (ah (aR 95 13) qkV):=LD.ins (by kernel_rfl) (by kernel_rfl) (.cons oA .nil) .nil
 (A:=List ao×List Pl×Nat×Int) (α:=Td) (λa o k=>rsC a.1 a.2.1 o a.2.2.1 a.2.2.2 k) RT (λa=>a.2.2.1) (λ_=>True) (λa o=>(.exit 4,⟨93,[(0,ct a.1),(1,dD a.2.1),(5,.sl 0 0 a.2.2.1),(6,iD a.2.2.2)],[(0,⟨0,none,sb false o⟩)]⟩)) (λ_ _ h=>by cases h)
 (by
  rintro⟨a,l,n,i⟩ o k ae _ h0 Hx jT hk hz bI dV
  try dsimp only at*
  subst Hx
  (rw[<-qkU];delta EG Ke Zt ZI EC Ze tY ZaW ZaV ZaU ZaT ZaS ZaR ZaX ZaY Zs Z9b ZB ZC eu im qi dW gR xP Za Kf ZaZ RY W4 Zx ZE ZZ zg Z8 Z7 Z9 ZaO ke Zr)
  refine dY (λhp=> ?_) λhp=>hz (by omega);have fU:k.toNat-1<o.length:=by omega
  have ek:(k-1).toNat=k.toNat-1:=by omega
  have e1:D.nth (o.map rQ) k.toNat=rQ o[k.toNat]:=az _ _ _ hk;have e2:D.nth (o.map rQ) (k.toNat-1)=rQ o[k.toNat-1]:=az _ _ _ fU;have bI:=bI hp;have dV:=dV hp;have Bx:=lq rQ o k.toNat o[k.toNat] o[k.toNat-1];have e3: ∀z,D.nth ((o.map rQ).set k.toNat z) (k.toNat-1)=rQ o[k.toNat-1]:=λz=>by unfold D.nth;rw[zab,zbc (by omega)];simp[fU]
  rw[ek,e1,e2];simp only[e3];generalize o[k.toNat]=x at*
  generalize o[k.toNat-1]=y at*
  simp only[zaa,zbp] at dV⊢;have By:0<=k/\k<(o.length:Int):=⟨h0,by omega⟩
  have Bz:0<=k-1/\k-1<(o.length:Int):=⟨by omega,by omega⟩
  have hf:(-9223372036854775808:Int)<=k-1/\k-1<=9223372036854775807:=by omega
  refine ak By (ak hk (aq (Kg _) (ak hf (ak Bz (ak fU (aq (Kg _) ⟨(x.1).1,(x.1).2.1,(x.1).2.2,(y.1).1,(y.1).2.1,(y.1).2.2,rfl,rfl,dY (λh=> ?_) λh=>bI (by rw[<-za6];exact λh2=>h ((ff (x.1) (y.1)).2 h2))⟩))))));have hy:=dV ((ff (x.1) (y.1)).1 h);simp only[rsC,sb] at hy;rw[<-Bx] at hy;refine ak hf (ak hf (ak Bz (ak fU (aq (Kg _) (ak By (ak hk (aq (Kg _) (ak By (ak hk (aq (Kg _) (ak Bz (ak fU (aq (Kg _) (ak hf ?_))))))))))))));exact hy)
 (by rintro s ae ⟨a,l,o,x,n,i,k,rfl,⟨hk,hn,ho⟩,hp⟩;refine⟨(a,l,n,i),o,x,k,rfl,hk,trivial,⟨hn.symm,ho⟩,?_⟩;have:=hp _ rfl;rw[rsA,mj,<-hn] at this;exact this)
theorem qcJ{a:List ao}{l:List Pl}{i}(h:i<a.length)(h2:i<l.length):M6 (a.take (i+1)) (l.take (i+1))=yu (M6 (a.take i) (l.take i)) (a[i],l[i]):=by unfold M6;rw[zaf h,zaf h2,List.zip_append (by rw[zau,zau];omega),zaY];rfl
theorem qcK:LD X 95 3 (ah (aR 95 3) qkW):=LD.idx (by kernel_rfl) (by kernel_rfl) .nil (.cons qcH (.cons qcI .nil))
 (A:=List ao×List Pl) (B:=List Td) (λa t i=>rsA a.1 a.2 t i) (λa=>a.1.length) (λa i t=>(a.1.length<=1000000/\a.2.length=a.1.length)/\t=M6 (a.1.take i) (a.2.take i))
 (λa x=>x=(.exit 0,⟨93,[(5,.sl 0 0 (M6 a.1 a.2).length)],[(0,⟨0,none,sb false (M6 a.1 a.2)⟩)]⟩))
 (by
  rintro⟨a,l⟩ t i ae h0 bJ bs ⟨hm,ht⟩ hn ho
  try dsimp only at*
  (rw[<-qeF];delta Zt Z9f ZB ZC ZI Z8 Z7 Ze eu jG CO CP A3 GB dW BV BW A4 Zb3 nX nb nQ BU q9 kU uU Hm EG Ke Zl Zm ZA xV im qi gR xP Zh dH ky PB Z5 wQ Z2 Zb1 Pa SJ)
  have qk5:i.toNat<l.length:=by omega
  have htl:t.length<=i.toNat:=by have:=zi (a.take i.toNat) (l.take i.toNat);rw[zau] at this;rw[ht];omega
  have e1:D.nth (a.map aL) i.toNat=aL a[i.toNat]:=az _ _ _ bs;have e2:D.nth (l.map bn) i.toNat=bn l[i.toNat]:=az _ _ _ qk5;have lu:=qcJ bs qk5;rw[<-ht] at lu;have dB:=λt' (h:t'=yu t (a[i.toNat],l[i.toNat]))=>hn t' ⟨hm,by rw[lu];exact h⟩;simp only[zaa];refine bF bJ (bF (by omega) ⟨a,l,t,i,bs,rfl,⟨by omega,h0,bJ⟩,λb hb=> ?_⟩);rw[e1,e2];generalize a[i.toNat]=x at*
  generalize l[i.toNat]=p at*
  refine ay (λHp=>ak (by omega) (dB t ?_)) λED=> ?_
  ·unfold yu;rw[zap (by rw[<-hb];exact Hp)]
  have Xl:yu t (x,p)=cq RT t (x,p):=by unfold yu;rw[zan (by rw[<-hb,ED];simp)]
  have t1:List.take t.length (t.map rQ)++[rQ (x,p)]=(t++[(x,p)]).map rQ:=b7 rQ t (x,p);simp only[zao,zav,zaD];refine ak ⟨h0,bJ⟩ (aq (ga _) (ak ⟨h0,by omega⟩ (aq (dX _) (aq ?_ (ak (by omega) ⟨a,l,t,(x,p),t.length+1,i,((t.length+1:Nat):Int)-1,congrArg (λz=>(⟨93,[(0,ct a),(1,dD l),(5,.sl 0 0 (t.length+1)),(6,iD i),(9,iD (((t.length+1:Nat):Int)-1))],[(0,⟨0,none,.arr 186 false z⟩)]⟩:S)) t1,⟨by omega,rfl,by omega⟩,λt' ht'=>ak (by omega) (dB t' (by rw[Xl];exact ht'))⟩)))));rw[zac];exact⟨by simp,cH (by omega) (by omega)⟩)
 (by
  rintro⟨a,l⟩ t i ae hi ⟨hm,ht⟩ ho
  try dsimp only at*
  (rw[<-qeF];delta Zt Z9f ZB ZC ZI Z8 Z7 Ze eu jG CO CP A3 GB dW BV BW A4 Zb3 nX nb nQ BU q9 kU uU Hm EG Ke Zl Zm ZA xV im qi gR xP Zh dH ky PB Z5 wQ Z2 Zb1 Pa SJ)
  refine mD (by simp only[zaa];omega) (ho _ (λh=>by cases h) ?_);rw[ht,zai,<-hm.2,zai])
 (by rintro s ae ⟨a,l,rfl,hm,hp⟩;refine⟨(a,l),[],rfl,⟨hm,rfl⟩,?_⟩;rintro x rfl;exact hp _ rfl)
theorem qk6:FD X 95 qkY:=FD.mk (by kernel_rfl) .nil (.cons qcK .nil) (by
 intro ps R ae hh;obtain⟨a,l,rfl,rfl,hm,hp⟩:=hh
 (rw[<-qkX];delta EG Ke nX dH fo j8 Z5 K7 ZN Xg eu im qi dW gR xP Zb4)
 exact⟨a,l,rfl,hm,λt ht=>hp t ht⟩)
theorem qcL:LD X 56 14 (ah (aR 56 14) qk1):=LD.ins (by kernel_rfl) (by kernel_rfl) (.cons oA .nil) .nil
 (A:=List Td×Nat×Int) (α:=Pl) (λa o k=>rpB a.1 o a.2.1 a.2.2 k) ltN (λa=>a.2.1) (λ_=>True) (λa o=>(.exit 2,⟨96,[(5,.sl 0 0 a.1.length),(6,.sl 1 0 a.2.1),(7,iD a.2.2)],[(0,⟨0,none,sb false a.1⟩),(1,⟨0,none,rh false o⟩)]⟩)) (λ_ _ h=>by cases h)
 (by
  rintro⟨t,m,i⟩ o k ae _ h0 Hx jT hk hz bI dV
  try dsimp only at*
  subst Hx
  (rw[<-qk0];delta eu Hv J6 EG Zt qo M3 nX xV Zb8 Ze jG CO CP A3 GB Zs Za PC Zb6 Zb7 W4 Zx ZE ZZ VA nQ zg Z8 Z7 Z9 nb Cb ke Zr)
  refine dY (λhp=> ?_) λhp=>hz (by omega);have fU:k.toNat-1<o.length:=by omega
  have ek:(k-1).toNat=k.toNat-1:=by omega
  have e1:D.nth (o.map bn) k.toNat=bn o[k.toNat]:=az _ _ _ hk;have e2:D.nth (o.map bn) (k.toNat-1)=bn o[k.toNat-1]:=az _ _ _ fU;have bI:=bI hp;have dV:=dV hp;have Bx:=lq bn o k.toNat o[k.toNat] o[k.toNat-1];have e3: ∀z,D.nth ((o.map bn).set k.toNat z) (k.toNat-1)=bn o[k.toNat-1]:=λz=>by unfold D.nth;rw[zab,zbc (by omega)];simp[fU]
  rw[ek,e1,e2];simp only[e3];generalize o[k.toNat]=x at*
  generalize o[k.toNat-1]=y at*
  simp only[zaa,zbp] at dV⊢;have By:0<=k/\k<(o.length:Int):=⟨h0,by omega⟩
  have Bz:0<=k-1/\k-1<(o.length:Int):=⟨by omega,by omega⟩
  have hf:(-9223372036854775808:Int)<=k-1/\k-1<=9223372036854775807:=by omega
  refine ak By (ak hk (aq (dX _) (ak hf (ak Bz (ak fU (aq (dX _) ⟨(x.1).1,(x.1).2.1,(x.1).2.2,(y.1).1,(y.1).2.1,(y.1).2.2,rfl,rfl,dY (λh=> ?_) λh=>bI (by rw[<-za6];exact λh2=>h ((ff (x.1) (y.1)).2 h2))⟩))))));have hy:=dV ((ff (x.1) (y.1)).1 h);simp only[rpB,rh,sb] at hy;rw[<-Bx] at hy;refine ak hf (ak hf (ak Bz (ak fU (aq (dX _) (ak By (ak hk (aq (dX _) (ak By (ak hk (aq (dX _) (ak Bz (ak fU (aq (dX _) (ak hf ?_))))))))))))));exact hy)
 (by rintro s ae ⟨t,o,x,m,i,k,rfl,⟨hk,hn,ho⟩,hp⟩;refine⟨(t,m,i),o,x,k,rfl,hk,trivial,⟨hn.symm,ho⟩,?_⟩;have:=hp _ rfl;rw[rpA,mj,<-hn] at this;exact this)
theorem qcM{t:List Td}{i}(h:i<t.length):r8 (t.take (i+1))=zh (r8 (t.take i)) t[i]:=by unfold r8;rw[zaf h,zaY];rfl
theorem qcN:LD X 56 4 (ah (aR 56 4) qk2):=LD.idx (by kernel_rfl) (by kernel_rfl) (.cons qk4 (.cons W6 .nil)) (.cons qcL .nil)
 (A:=List Td) (B:=List Pl) (λt o i=>rpA t o i) (λt=>t.length) (λt i o=>t.length<=1000000/\o=r8 (t.take i))
 (λt x=>x=(.exit 0,⟨96,[(6,.sl 0 0 (r8 t).length)],[(0,⟨0,none,rh false (r8 t)⟩)]⟩))
 (by
  rintro t o i ae h0 bJ bs ⟨hm,ho⟩ hn bw
  (rw[<-qeG];delta eu Hv r7 Zt M3 Ze tY ZaW ZaV ZaU ZaT ZaS ZaR ZaX qo nX xV Z8 Z7 fo Zba nQ Hu Z8m pV gx SV SX gj gk gy fQ fR gS gA Zbb oS J6 EG Zl Zm ZJ Zb9 Zh ZaO ZaN ZaI)
  have jT:o.length<=i.toNat:=by have:=rO (t.take i.toNat);rw[zau] at this;rw[ho];omega
  have e1:D.nth (t.map rQ) i.toNat=rQ t[i.toNat]:=az _ _ _ bs;have lu:=qcM bs;rw[<-ho] at lu;have dB:=λo' (h:o'=zh o t[i.toNat])=>hn o' ⟨hm,by rw[lu];exact h⟩;rw[e1];generalize t[i.toNat]=y at*
  have v:(D.aj (D.au (rQ y) 3)==0&&(D.aj (D.au (rQ y) 4)==0&&true)&&(D.aj (D.au (rQ y) 5)==0&&true))=(y.2.1==aA):=Ho y.2.1 aA;have qoc:i.toNat<(t.map rQ).length:=by rw[zaa];exact bs
  rw[v];simp only[zao,zav,zaD];refine bF bJ (ak ⟨h0,bJ⟩ (ak qoc (aq (Kg _) ?_)));refine ay (λhr=>ak (by omega) (dB o ?_)) λhr=>⟨o,y.2.2.1,y.2.1,rfl,rfl,by omega,λb hb=>ay (λHp=>ak (by omega) (dB o ?_)) λED=>⟨o,y.2.1,rfl,rfl,by omega,dY (λH4=> ?_) λH4=> ?_⟩⟩
  ·unfold zh;rw[zap (.inl (by simpa using hr))]
  ·unfold zh;rw[zap (.inr (by rw[<-hb];exact Hp))]
  ·have bI: ¬(y.2.1=aA\/within o y.2.2.1 y.2.1=true):=λhh=>hh.elim (λe=>by rw[e] at hr;simp at hr) (λe=>by rw[<-hb,ED] at e;cases e);have Es:(dR o y.2.1).toNat<o.length:=by
    rcases pM (λp:Pl=>p.1==y.2.1) o with⟨k,p,h2,h3,h4⟩| ⟨h2,h3⟩
    ·have hk:k<o.length:=(zae.1 h2).1;have e:dR o y.2.1=(k:Int):=h4;omega
    have e:dR o y.2.1= -1:=h2;omega
   have NU:(dR o y.2.1).toNat<(o.map bn).length:=by rw[zaa];exact Es
   have hy:=dB (o.set (dR o y.2.1).toNat (y.2.1,y.2.2.1,y.2.2.2.1,(o.getD (dR o y.2.1).toNat qa).2.2.2)) (by unfold zh;rw[zan bI,zap H4]);rw[iN Es];generalize o.getD (dR o y.2.1).toNat qa=q at*
   simp only[rpA,rh,sb,zb4,zbp] at hy;refine ak ⟨H4,by omega⟩ (ak NU (aq (dX _) (ak ⟨H4,by omega⟩ (ak NU (aq (dX _) (ak (by omega) ?_))))));exact hy
  have bI: ¬(y.2.1=aA\/within o y.2.2.1 y.2.1=true):=λhh=>hh.elim (λe=>by rw[e] at hr;simp at hr) (λe=>by rw[<-hb,ED] at e;cases e);have t1:List.take o.length (o.map bn)++[bn y.2]=(o++[y.2]).map bn:=b7 bn o y.2;refine aq ?_ (ak (by omega) ⟨t,o,y.2,o.length+1,i,((o.length+1:Nat):Int)-1,congrArg (λz=>(⟨96,[(5,.sl 0 0 t.length),(6,.sl 1 0 (o.length+1)),(7,iD i),(10,iD (((o.length+1:Nat):Int)-1))],[(0,⟨0,none,sb false t⟩),(1,⟨0,none,.arr 108 false z⟩)]⟩:S)) t1,⟨by omega,rfl,by omega⟩,λo' gK=>ak (by omega) (dB o' (by unfold zh;rw[zan bI,zan H4];exact gK))⟩);rw[zac];exact⟨by simp,cH (by omega) (by omega)⟩)
 (by
  rintro t o i ae hi ⟨hm,ho⟩ bw
  (rw[<-qeG];delta eu Hv r7 Zt M3 Ze tY ZaW ZaV ZaU ZaT ZaS ZaR ZaX qo nX xV Z8 Z7 fo Zba nQ Hu Z8m pV gx SV SX gj gk gy fQ fR gS gA Zbb oS J6 EG Zl Zm ZJ Zb9 Zh ZaO ZaN ZaI)
  refine mD (by first |omega | (simp only[zaa];omega)) (bw _ (λh=>by cases h) ?_);rw[ho,zai])
 (by rintro s ae ⟨t,rfl,hm,hp⟩;refine⟨t,[],rfl,⟨hm,rfl⟩,?_⟩;rintro x rfl;exact hp _ rfl)
theorem qk7:FD X 56 qk3:=FD.mk (by kernel_rfl) (.cons qk6 .nil) (.cons qcN .nil) (by
 intro ps R ae hh;obtain⟨a,l,rfl,rfl,hm,hp⟩:=hh
 (rw[<-qob];delta eu Hv r7 fo oS nX PB xQ EG Z5 ZW Bu Z9g xV Zbc dH j8 Zx im dW gR)
 have:=zi a l;exact⟨a,l,rfl,rfl,hm,λt ht=>⟨t,rfl,by rw[ht];omega,λo ho=>hp o (by rw[ho,ht])⟩⟩)
end
abbrev md3(l:List ar)(p o:List Pl)(i:Int):S:=⟨78,[(0,dw l),(1,dD p),(5,.sl 0 0 o.length),(6,iD i)],[(0,⟨0,none,rh false o⟩)]⟩
abbrev md6(l:List ar)(p o:List Pl)(i j:Int):S:=⟨78,[(0,dw l),(1,dD p),(5,.sl 0 0 o.length),(6,iD i),(7,iD j)],[(0,⟨0,none,rh false o⟩)]⟩
abbrev md9(l:List ar)(p o:List Pl)(i j k:Int):S:=⟨78,[(0,dw l),(1,dD p),(5,.sl 0 0 o.length),(6,iD i),(7,iD j),(8,iD k)],[(0,⟨0,none,rh false o⟩)]⟩
def Kh o:=(5,oS o)
def mr l j k:=D.nth (D.gW (D.au (ln l j) 6)) (Ze k)
def Zbi p i l j k:=[D.agg [A3 p i,CP p i,CO p i,D.int .i64 (D.aj (D.au (jG p i) 3)),D.int .i64 (D.aj (D.au (jG p i) 4)),D.int .i64 (D.aj (D.au (jG p i) 5)),D.str (D.cJ (D.au (jG p i) 6)),D.bool (D.dp (D.au (mr l j k) 8))]]
def La l j k:=D.aj (D.au (mr l j k) 0)
noncomputable def Lb l j k:=bO PR (79:TypeId) (mr l j k)
def Lc k l j:=decide ((0:Int)<=k/\k<(↑(List.length (D.gW (D.au (ln l j) 6))):Int))
def S8 k l j:=decide (k<(↑(List.length (D.gW (D.au (ln l j) 6))):Int))
theorem qeH l p o i j k ae:(ob (qn j l) (ob (iY l j) (bif S8 k l j then ob (qn j l) (ob (iY l j) (ob (Lc k l j) (ob (Lb l j k) (bif La l j k==(0:Int) then ob (qn j l) (ob (iY l j) (ob (Lc k l j) (ob (Lb l j k) (ob (BU i p) (ob (nb p i) (bif D.aj (D.au (mr l j k) 1)==D.aj (D.au (jG p i) 0)&&(D.aj (D.au (mr l j k) 2)==D.aj (D.au (jG p i) 1)&&true)&&(D.aj (D.au (mr l j k) 3)==D.aj (D.au (jG p i) 2)&&true) then ob (BU i p) (ob (nb p i) (ob (qn j l) (ob (iY l j) (ob (Lc k l j) (ob (Lb l j k) (ob (Nat.ble (fo o) (nQ o)&&aG (fo o+List.length (Zbi p i l j k)) 72) (ob (Zh k) (ae (PX.normal,S.mk 78 (gl l::qi p::(5,P.sl 0 0 (fo o+List.length (Zbi p i l j k)))::ZI i::qo j::rN k) [(0,En.mk 0 none (Obj.arr (108:TypeId) false (List.take (fo o) (eu o)++Zbi p i l j k)))]))))))))) else ob (Zh k) (ae (PX.normal,S.mk 78 (gl l::qi p::Kh o::ZI i::qo j::rN k) (r7 o))))))))) else ob (Zh k) (ae (PX.normal,S.mk 78 (gl l::qi p::Kh o::ZI i::qo j::rN k) (r7 o))))))) else ae (PX.exit 4,S.mk 78 [gl l,qi p,Kh o,ZI i,qo j] (r7 o)))))=(aD [] [] 55 9 (md9 l p o i j k)) ae:=by kernel_rfl
def qk8:S->K (PX×S):=λs ae=> ∃l p o i j hi hj,s=md9 l p o i j 0/\((0<=i/\0<=j/\p.length<=1000)/\l.length<=1000000/\o.length<=1000/\l[j.toNat].ops.length<=200)/\ ∀o',o'=o++mdG p[i.toNat] l[j.toNat]->ae (.exit 4,md6 l p o' i j)
theorem qeI l p o i j ae:(bif Bl j l then∃av mE bq bg j_1 hi hj,S.mk 78 (gl l::qi p::Kh o::ZI i::qo j::wQ) (r7 o)=S.mk 78 (gl av::qi mE::Kh bq::ZI bg::qo j_1::wQ) (r7 bq)/\(((0:Int)<=bg/\(0:Int)<=j_1/\C1 mE)/\mM av/\C1 bq/\List.length (ar.ops av[Int.toNat j_1])<=200)/\ ∀o',o'=bq++mdG mE[Int.toNat bg] av[Int.toNat j_1]->ob (Zh j_1) (ae (PX.normal,S.mk 78 (gl av::qi mE::Kh o'::ZI bg::ZJ j_1) (r7 o'))) else ae (PX.exit 2,S.mk 78 (gl l::qi p::Kh o::EC i) (r7 o)))=(aD [] [(9,ah (aR 55 9) qk8)] 55 6 (md6 l p o i j)) ae:=by kernel_rfl
def qk9:S->K (PX×S):=λs ae=> ∃l p o i hi,s=md6 l p o i 0/\((0<=i/\p.length<=1000)/\l.length<=1000000/\o.length<=999/\(∀g∈l,cA g=true)/\(l.map (·.s)).Nodup)/\ ∀o',o'=o++Hw l p[i.toNat]->ae (.exit 2,md3 l p o' i)
def Zbk(av:List ar):= ∀g,g∈av->cA g=true
theorem qeJ l p o i ae:(bif Pa i p then∃av mE bq bg hi,S.mk 78 (gl l::qi p::Kh o::ZI i::ZW) (r7 o)=S.mk 78 (gl av::qi mE::Kh bq::ZI bg::ZW) (r7 bq)/\(((0:Int)<=bg/\C1 mE)/\mM av/\fo bq<=999/\Zbk av/\List.Nodup (List.map (λx=>ar.s x) av))/\ ∀o',o'=bq++Hw av mE[Int.toNat bg]->ob (Zh bg) (ae (PX.normal,S.mk 78 (gl av::qi mE::Kh o'::ZA bg) (r7 o'))) else ae (PX.exit 0,S.mk 78 [Kh o] (r7 o)))=(aD [] [(6,ah (aR 55 6) qk9)] 55 3 (md3 l p o i)) ae:=by kernel_rfl
def qla:S->K (PX×S):=λs ae=> ∃l p,s=md3 l p [] 0/\(p.length<=1000/\l.length<=1000000/\(∀g∈l,cA g=true)/\(l.map (·.s)).Nodup)/\ ∀o,o=K8 l p->ae (.exit 0,⟨78,[(5,.sl 0 0 o.length)],[(0,⟨0,none,rh false o⟩)]⟩)
def Zbm mE av:=C1 mE/\mM av/\Zbk av/\List.Nodup (List.map (λx=>ar.s x) av)
def Zbl av mE:=S.mk 78 (gl av::qi mE::Xg) [(0,xQ)]
theorem qod l p ae:(∃av mE,Zbl l p=Zbl av mE/\Zbm mE av/\ ∀o,o=K8 av mE->ae (oS o,r7 o))=(aI [] [(3,ah (aR 55 3) qla)] 55 [dw l,dD p] []) ae:=by kernel_rfl
def qeK:a8:=λps R ae=> ∃l p,ps=[dw l,dD p]/\R=[]/\(p.length<=1000/\l.length<=1000000/\(∀g∈l,cA g=true)/\(l.map (·.s)).Nodup)/\ ∀o,o=K8 l p->ae (.sl 0 0 o.length,[(0,⟨0,none,rh false o⟩)])
abbrev ofR(m:List ar)(o:List aF)(nh nl:Nat)(A P H L:List D):List (Nat×En):=[(0,⟨0,none,pW true m⟩),(1,⟨0,none,.box 81 [.sl 2 0 0,.sl 3 0 0,.sl 4 0 0,.sl 5 0 0,.sl 6 0 0]⟩),(2,⟨0,none,nj false []⟩),(3,⟨0,none,rh false []⟩),(4,⟨0,none,qky false []⟩),(5,⟨0,none,qky false []⟩),(6,⟨0,none,.arr 66 false []⟩),(7,⟨0,none,.box 81 [.sl 8 0 o.length,.sl 9 0 0,.sl 10 0 nh,.sl 11 0 nl,.sl 12 0 0]⟩),(8,⟨0,none,nj false o⟩),(9,⟨0,none,rh false []⟩),(10,⟨0,none,.arr 121 false H⟩),(11,⟨0,none,.arr 121 false L⟩),(12,⟨0,none,.arr 66 false []⟩),(13,⟨0,none,.arr 49 false A⟩),(14,⟨0,none,.arr 108 false P⟩)]
abbrev of7(m:List ar)(o:List aF)(na np nh nl:Nat)(A P H L:List D)(i:Int):S:=⟨140,[(0,.sl 0 0 m.length),(2,.ref 1 0 0),(3,.ref 7 0 0),(4,.sl 13 0 na),(5,.sl 14 0 np),(6,iD i)],ofR m o nh nl A P H L⟩
abbrev XC(m:List ar)(o:List aF)(na np nh nl:Nat)(A P H L:List D)(i:Int)(on:Bool)(k:Int):S:=⟨140,[(0,.sl 0 0 m.length),(2,.ref 1 0 0),(3,.ref 7 0 0),(4,.sl 13 0 na),(5,.sl 14 0 np),(6,iD i),(7,.d (.bool on)),(8,iD k)],ofR m o nh nl A P H L⟩
abbrev qhu(m:List ar)(o:List aF)(y:bj)(na np nh nl:Nat)(A P H L:List D)(i:Int)(on:Bool)(k j:Int):S:=⟨140,[(0,.sl 0 0 m.length),(2,.ref 1 0 0),(3,.ref 7 0 0),(4,.sl 13 0 na),(5,.sl 14 0 np),(6,iD i),(7,.d (.bool on)),(8,iD k),(9,.ref 15 0 0),(10,iD j)],ofR m o nh nl A P H L++[(15,⟨0,none,qkP y⟩)]⟩
def RZ:=(12,O9)
def R4 H:=(10,jH H)
def Ki:=(9,xQ)
def Kj o:=(8,re o)
def ZbI o H L A P:=[Kj o,Ki,R4 H,(11,jH L),RZ,(13,za A),(14,EF P)]
def XD:=[P.sl 12 0 0]
def R5:=P.sl 9 0 0
def R6 o nh nl:=(7,En.mk 0 none (Obj.box (81:TypeId) (P.sl 8 0 (eH o)::R5::P.sl 10 0 nh::P.sl 11 0 nl::XD)))
def Hy:=(6,O9)
def Hz:=En.mk 0 none (Obj.arr (121:TypeId) false [])
def HA:=(5,Hz)
def HB:=(4,Hz)
def HE:=(3,xQ)
def xW:=(2,Ca)
def HF:=(1,En.mk 0 none (Obj.box (81:TypeId) [P.sl 2 0 0,P.sl 3 0 0,P.sl 4 0 0,vN,P.sl 6 0 0]))
def S9 m:=En.mk 0 none (Obj.arr (31:TypeId) true (List.map bZ m))
def Cg m:=(0,S9 m)
def Nb m o nh nl H L A P:=Cg m::HF::xW::HE::HB::HA::Hy::R6 o nh nl::ZbI o H L A P
def ZbG A P y:=[RZ,(13,za A),(14,EF P),(15,Zal y)]
def HG np:=(5,P.sl 14 0 np)
def HI na:=(4,P.sl 13 0 na)
def C6:=(3,P.ref 7 0 0)
def C7:=(2,je)
theorem XE m o y na np nh nl A P H L i on k j ae:(bif decide (j<JG y) then bif on then ob (decide ((0:Int)<=j/\j<JG y)) (ob (bO PR (27:TypeId) (Za2 y j)) (ob (yq nl L&&aG (nl+List.length (Za3 y j)) 40) (ob (Zh j) (ae (PX.normal,S.mk 140 [qm m,C7,C6,HI na,HG np,ZI i,yr on,uh k,(9,Pi.P.ref 15 0 0),(10,Zm j)] (Cg m::HF::xW::HE::HB::HA::Hy::(7,En.mk 0 none (Obj.box (81:TypeId) (Pi.P.sl 8 0 (eH o)::R5::Pi.P.sl 10 0 nh::Pi.P.sl 11 0 (nl+List.length (Za3 y j))::XD)))::Kj o::Ki::R4 H::(11,En.mk 0 none (Obj.arr (121:TypeId) false (List.take nl L++Za3 y j)))::ZbG A P y)))))) else ae (PX.exit 4,S.mk 140 [qm m,C7,C6,HI na,HG np,ZI i,yr on,uh k] (Nb m o nh nl H L A P)) else ae (PX.exit 4,S.mk 140 [qm m,C7,C6,HI na,HG np,ZI i,yr on,uh k] (Nb m o nh nl H L A P)))=(aD [] [] 28 20 (qhu m o y na np nh nl A P H L i on k j)) ae:=by kernel_rfl
def qeL:S->K (PX×S):=λs ae=> ∃m o y na np nh nl A P H L i on k,s=qhu m o y na np nh nl A P H L i on k 0/\(y.cu.length<=200/\nl=L.length/\nl<=100000000000)/\ ∀cQ L',vz on y nl L cQ L'->ae (.exit 4,XC m o na np nh cQ A P H L' i on k)
def ZbM m i k:=D.int .i64 (D.aj (D.au (mr m i k) 3))
def ZbL m i k:=D.int .i64 (D.aj (D.au (mr m i k) 2))
def ZbK m i k:=D.int .i64 (D.aj (D.au (mr m i k) 1))
def ZbV m i k:=[(15,En.mk 0 none (Obj.box (79:TypeId) [P.d (D.int .i64 (La m i k)),P.d (ZbK m i k),P.d (ZbL m i k),P.d (ZbM m i k),P.d (D.int .i64 (D.aj (D.au (mr m i k) 4))),P.d (D.int .i64 (D.aj (D.au (mr m i k) 5))),P.d (D.int .i64 (D.aj (D.au (mr m i k) 6))),P.d (D.str (D.cJ (D.au (mr m i k) 7))),P.d (D.bool (D.dp (D.au (mr m i k) 8))),P.d (D.sl 2 (D.gW (D.au (mr m i k) 9))),P.d (D.int .i64 (D.aj (D.au (mr m i k) 10))),P.d (D.int .i64 (D.aj (D.au (mr m i k) 11))),P.d (D.int .i64 (D.aj (D.au (mr m i k) 12))),P.d (D.int .i64 (D.aj (D.au (mr m i k) 13))),P.d (D.int .i64 (D.aj (D.au (mr m i k) 14))),P.d (D.int .i64 (D.aj (D.au (mr m i k) 15))),P.d (D.str (D.cJ (D.au (mr m i k) 16))),P.d (D.sl 3 (D.gW (D.au (mr m i k) 17)))]))]
def ZbP bg eW cd:=[ZI bg,yr eW,uh cd,(9,P.ref 15 0 0),(10,P.d Z5)]
def ZbQ cg kY kZ bg eW cd:=qm cg::C7::C6::HI kY::HG kZ::ZbP bg eW cd
def ZbZ m na np i on k o nh nl H L A P (ae:PX×S->Prop):= ∃cg bq y kY kZ mO iA Cd Ce Cf xU bg eW cd,S.mk 140 (ZbQ m na np i on k) (Cg m::HF::xW::HE::HB::HA::Hy::R6 o nh nl::Kj o::Ki::R4 H::(11,jH L)::RZ::(13,za A)::(14,EF P)::ZbV m i k)=S.mk 140 (ZbQ cg kY kZ bg eW cd) (Cg cg::HF::xW::HE::HB::HA::Hy::R6 bq mO iA::Kj bq::Ki::R4 Cf::(11,jH xU)::ZbG Cd Ce y)/\(K9 y/\iA=List.length xU/\iA<=100000000000)/\ ∀cQ L',vz eW y iA xU cQ L'->ob (Zh cd) (ae (PX.normal,S.mk 140 (qm cg::C7::C6::HI kY::HG kZ::ZI bg::yr eW::rN cd) (Nb cg bq mO cQ Cf L' Cd Ce)))
def ZbO m i k:=[D.agg [ZbK m i k,ZbL m i k,ZbM m i k,Bk m i,Bj m i]]
def ZbU nh H m i k:=(10,En.mk 0 none (Obj.arr (121:TypeId) false (List.take nh H++ZbO m i k)))
def ZbT o nh m i k nl:=(7,En.mk 0 none (Obj.box (81:TypeId) (P.sl 8 0 (eH o)::R5::P.sl 10 0 (nh+List.length (ZbO m i k))::P.sl 11 0 nl::XD)))
def ZbR(ae:PX×S->Prop):=λs0=> ∃cg bq y kY kZ mO iA Cd Ce Cf xU bg eW cd,s0=S.mk 140 (ZbQ cg kY kZ bg eW cd) (Cg cg::HF::xW::HE::HB::HA::Hy::R6 bq mO iA::Kj bq::Ki::R4 Cf::(11,jH xU)::ZbG Cd Ce y)/\(K9 y/\iA=List.length xU/\iA<=100000000000)/\ ∀cQ L',vz eW y iA xU cQ L'->ob (Zh cd) (ae (PX.normal,S.mk 140 (qm cg::C7::C6::HI kY::HG kZ::ZI bg::yr eW::rN cd) (Nb cg bq mO cQ Cf L' Cd Ce)))
noncomputable def Zc0 on m i k nh H na np o nl L A P ae:=bif on then bif La m i k !=(2:Int) then ob (B7 i m) (ob (B6 i m) (ob (iY m i) (ob (yq nh H&&aG (nh+List.length (ZbO m i k)) 40) (ZbR ae (S.mk 140 (ZbQ m na np i on k) (Cg m::HF::xW::HE::HB::HA::Hy::ZbT o nh m i k nl::Kj o::Ki::ZbU nh H m i k::(11,jH L)::RZ::(13,za A)::(14,EF P)::ZbV m i k)))))) else ZbZ m na np i on k o nh nl H L A P ae else ZbZ m na np i on k o nh nl H L A P ae
def ZbN m i k:=[D.agg [ZbK m i k,ZbL m i k,ZbM m i k,D.int .i64 (D.aj (D.au (mr m i k) 4)),D.int .i64 (D.aj (D.au (mr m i k) 5)),D.int .i64 (D.aj (D.au (mr m i k) 6)),D.str (D.cJ (D.au (mr m i k) 7)),D.bool (D.dp (D.au (mr m i k) 8))]]
def ZbW L na A m i k np P:=(11,jH L)::RZ::(13,En.mk 0 none (Obj.arr (49:TypeId) false (List.take na A++[D.agg (Bk m i::Bj m i::ZE k)])))::(14,En.mk 0 none (Obj.arr (108:TypeId) false (List.take np P++ZbN m i k)))::ZbV m i k
def ZbS m na i k np on:=qm m::C7::C6::(4,P.sl 13 0 (na+List.length [D.agg (Bk m i::Bj m i::ZE k)]))::(5,P.sl 14 0 (np+List.length (ZbN m i k)))::ZbP i on k
def ZbX m na i k np on o nh nl H L A P (ae:PX×S->Prop):= ∃cg bq y kY kZ mO iA Cd Ce Cf xU bg eW cd,S.mk 140 (ZbS m na i k np on) (Cg m::HF::xW::HE::HB::HA::Hy::R6 o nh nl::Kj o::Ki::R4 H::ZbW L na A m i k np P)=S.mk 140 (ZbQ cg kY kZ bg eW cd) (Cg cg::HF::xW::HE::HB::HA::Hy::R6 bq mO iA::Kj bq::Ki::R4 Cf::(11,jH xU)::ZbG Cd Ce y)/\(K9 y/\iA=List.length xU/\iA<=100000000000)/\ ∀cQ L',vz eW y iA xU cQ L'->ob (Zh cd) (ae (PX.normal,S.mk 140 (qm cg::C7::C6::HI kY::HG kZ::ZI bg::yr eW::rN cd) (Nb cg bq mO cQ Cf L' Cd Ce)))
noncomputable def ZbY i m na A k np P on nh H o nl L ae:=ob (B7 i m) (ob (B6 i m) (ob (iY m i) (ob (yq na A&&aG (na+List.length [D.agg (Bk m i::Bj m i::ZE k)]) 24) (ob (yq np P&&aG (np+List.length (ZbN m i k)) 72) (bif on then bif La m i k !=(2:Int) then ob (B7 i m) (ob (B6 i m) (ob (iY m i) (ob (yq nh H&&aG (nh+List.length (ZbO m i k)) 40) (ZbR ae (S.mk 140 (ZbS m na i k np on) (Cg m::HF::xW::HE::HB::HA::Hy::ZbT o nh m i k nl::Kj o::Ki::ZbU nh H m i k::ZbW L na A m i k np P)))))) else ZbX m na i k np on o nh nl H L A P ae else ZbX m na i k np on o nh nl H L A P ae)))))
theorem XG m o na np nh nl A P H L i on k ae:(ob (B7 i m) (ob (B6 i m) (ob (iY m i) (bif S8 k m i then ob (B7 i m) (ob (B6 i m) (ob (iY m i) (ob (Lc k m i) (ob (Lb m i k) (bif La m i k==(0:Int) then ZbY i m na A k np P on nh H o nl L ae else bif La m i k==(1:Int) then bif on then ZbY i m na A k np P on nh H o nl L ae else Zc0 on m i k nh H na np o nl L A P ae else Zc0 on m i k nh H na np o nl L A P ae))))) else ae (PX.exit 2,S.mk 140 (qm m::C7::C6::HI na::HG np::EC i) (Nb m o nh nl H L A P))))))=(aD [] [(20,ah (aR 28 20) qeL)] 28 11 (XC m o na np nh nl A P H L i on k)) ae:=by kernel_rfl
def qeM:S->K (PX×S):=λs ae=> ∃(m:List ar) (o:List aF) (na np nh nl:Nat) (A P H L:List D) (i:Int) (on:Bool) (t:Tl) (N:Nat) (hi:i.toNat<m.length),s=XC m o na np nh nl A P H L i on 0/\(sa t na np nh nl A P H L/\wN N t/\N<=300000000/\(0<=i/\m[i.toNat].ops.length<=200/\ ∀y∈m[i.toNat].ops,y.cu.length<=200))/\
 ∀qf qg qh cQ A' P' H' L',sa (JW on m[i.toNat].s m[i.toNat].ops t) qf qg qh cQ A' P' H' L'->ae (.exit 2,of7 m o qf qg qh cQ A' P' H' L' i)
theorem qeN m o na np nh nl A P H L i ae:(bif SM i m then ob (B7 i m) (ob (B6 i m) (ob (iY m i) (∃l x,[sS o,Pi.P.d (Ek m i)]=sS l::oQ x/\xN o=xN l/\B9 l/\ ∀b,b=decide (x∈l)-> ∃cg bq kY kZ mO iA Cd Ce Cf xU bg on t N hi,S.mk 140 (qm m::C7::C6::HI na::HG np::ZI i::yr b::wQ) (Cg m::HF::xW::HE::HB::HA::Hy::R6 o nh nl::ZbI l H L A P)=S.mk 140 (qm cg::C7::C6::HI kY::HG kZ::ZI bg::yr on::wQ) (Nb cg bq mO iA Cf xU Cd Ce)/\(sa t kY kZ mO iA Cd Ce Cf xU/\wN N t/\N<=300000000/\(0:Int)<=bg/\List.length (ar.ops cg[Int.toNat bg])<=200/\ ∀y,y∈ar.ops cg[Int.toNat bg]->K9 y)/\ ∀qf qg qh cQ A' P' H' L',sa (JW on (ar.s cg[Int.toNat bg]) (ar.ops cg[Int.toNat bg]) t) qf qg qh cQ A' P' H' L'->ob (Zh bg) (ae (PX.normal,S.mk 140 (qm cg::C7::C6::HI qf::HG qg::ZA bg) (Nb cg bq qh cQ H' L' A' P')))))) else ae (PX.exit 0,S.mk 140 [qm m,C7,C6,HI na,HG np] (Nb m o nh nl H L A P)))=(aD [(14,Px)] [(11,ah (aR 28 11) qeM)] 28 7 (of7 m o na np nh nl A P H L i)) ae:=by kernel_rfl
abbrev OfB:=Nat×Nat×Nat×Nat×List D×List D×List D×List D
structure OfP where
 m:List ar
 o:List aF
 y:bj
 na:Nat
 np:Nat
 nh:Nat
 A:List D
 P:List D
 H:List D
 i:Int
 on:Bool
 k:Int
 L:List D
structure OfQ where
 m:List ar
 o:List aF
 g:ar
 i:Int
 on:Bool
 t:Tl
 N:Nat
theorem XH{x}{g:ar}{k}(h:k<g.ops.length):(g.ops.take (k+1)).flatMap (C2 x)=(g.ops.take k).flatMap (C2 x)++C2 x g.ops[k]:=by rw[zaf h,zce];simp
theorem XI{x}{l:List ar}{j}(h:j<l.length):Hw (l.take (j+1)) x=Hw (l.take j) x++mdG x l[j]:=by unfold Hw;rw[zaf h,zce];simp
theorem XJ{l}{p:List Pl}{i}(h:i<p.length):K8 l (p.take (i+1))=K8 l (p.take i)++Hw l p[i]:=by unfold K8;rw[zaf h,zce];simp
theorem PD x: ∀l:List bj,(l.flatMap (C2 x)).length<=l.length
 | []=>by simp
 |a::r=>by have h1:=PD x r;have h2:=Pu x a;rw[zcI,zaj,zao];omega
section
variable{X:XF}
theorem qcO:LD X 55 9 (ah (aR 55 9) qk8):=LD.idx (by kernel_rfl) (by kernel_rfl) .nil .nil
 (A:=List ar×List Pl×List Pl×Int×Int×Pl×ar) (B:=List Pl) (λa o k=>md9 a.1 a.2.1 o a.2.2.2.1 a.2.2.2.2.1 k) (λa=>a.2.2.2.2.2.2.ops.length)
 (λa k o=>((0<=a.2.2.2.1/\a.2.2.2.1<a.2.1.length/\0<=a.2.2.2.2.1/\a.2.2.2.2.1<a.1.length)/\D.nth (a.2.1.map bn) a.2.2.2.1.toNat=bn a.2.2.2.2.2.1/\D.nth (a.1.map bZ) a.2.2.2.2.1.toNat=bZ a.2.2.2.2.2.2/\a.2.2.1.length<=1000/\a.2.2.2.2.2.2.ops.length<=200)/\o=a.2.2.1++(a.2.2.2.2.2.2.ops.take k).flatMap (C2 a.2.2.2.2.2.1))
 (λa z=>z=(.exit 4,md6 a.1 a.2.1 (a.2.2.1++mdG a.2.2.2.2.2.1 a.2.2.2.2.2.2) a.2.2.2.1 a.2.2.2.2.1))
 (by
  rintro⟨l,p,o0,i,j,x,g⟩ o k ae h0 wc eD ⟨⟨hb,hx,hg,jT,C8⟩,ho⟩ hn bw;dsimp only at*
  (rw[<-qeH];delta eu Hv r7 fo oS Kh Zl Zm rN Zt qo ZI im qi gF gl Z8 Z7 Zh Ze ln mr jG CO CP A3 Zbi nQ nb BU La Lb Lc S8 iY iu qn)
  rw[hx,hg];have u6:D.gW (D.au (bZ g) 6)=g.ops.map eT:=rfl;have e1:D.nth (g.ops.map eT) k.toNat=eT g.ops[k.toNat]:=az _ _ _ eD;have nq:=XH (x:=x) eD;have hlen:=PD x (g.ops.take k.toNat);rw[zau] at hlen;have qo0:o.length<=1200:=by rw[ho,zaj];omega
  rw[u6,e1];generalize g.ops[k.toNat]=y at*
  have u0:D.aj (D.au (eT y) 0)=y.kind:=rfl;have v:(D.aj (D.au (eT y) 1)==D.aj (D.au (bn x) 0)&&(D.aj (D.au (eT y) 2)==D.aj (D.au (bn x) 1)&&true)&&(D.aj (D.au (eT y) 3)==D.aj (D.au (bn x) 2)&&true))=(y.node==x.1):=Ho y.node x.1;have N5:0<=j/\j<((l.map bZ).length:Int):=by rw[zaa];exact⟨hb.2.2.1,hb.2.2.2⟩
  have gQ:0<=i/\i<((p.map bn).length:Int):=by rw[zaa];exact⟨hb.1,hb.2.1⟩
  have Nc:0<=k/\k<((g.ops.map eT).length:Int):=by rw[zaa];exact⟨h0,wc⟩
  have ru:=mL g;have Qm:=dX x;have ux:=MI y;rw[u0,v];refine ak N5 (aq ru (bF Nc.2 (ak N5 (aq ru (ak Nc (aq ux ?_))))));have bI: ¬(y.kind=0/\y.node=x.1)->o0++(g.ops.take (k.toNat+1)).flatMap (C2 x)=o:=λh=>by
   rw[nq,ho];have:C2 x y=[]:=by unfold C2;rw[zan h]
   rw[this,zbi]
  refine ay (λhk=>ak N5 (aq ru (ak Nc (aq ux (ak gQ (aq Qm (ay (λCK=> ?_) λCK=>ak (by omega) (hn o ⟨⟨hb,hx,hg,jT,C8⟩,(bI (λhh=>by rw[hh.2] at CK;simp at CK)).symm⟩)))))))) λhk=>ak (by omega) (hn o ⟨⟨hb,hx,hg,jT,C8⟩,(bI (λhh=>by rw[hh.1] at hk;simp at hk)).symm⟩);have dV:o0++(g.ops.take (k.toNat+1)).flatMap (C2 x)=o++[(x.1,x.2.1,x.2.2.1,y.dir)]:=by
   rw[nq,ho,zaK];have:C2 x y=[(x.1,x.2.1,x.2.2.1,y.dir)]:=by unfold C2;rw[zap ⟨by simpa using hk,by simpa using CK⟩]
   rw[this]
  have t1:List.take o.length (o.map bn)++[bn (x.1,x.2.1,x.2.2.1,y.dir)]=(o++[(x.1,x.2.1,x.2.2.1,y.dir)]).map bn:=b7 bn o _;have hy:=hn (o++[(x.1,x.2.1,x.2.2.1,y.dir)]) ⟨⟨hb,hx,hg,jT,C8⟩,dV.symm⟩;simp only[md9,rh,zaj] at hy;rw[<-t1] at hy;refine ak gQ (aq Qm (ak N5 (aq ru (ak Nc (aq ux (aq (eF rfl (by rw[zaa]) (by omega) (by decide)) (ak (by omega) ?_)))))));exact hy)
 (by
  rintro⟨l,p,o0,i,j,x,g⟩ o k ae hk ⟨⟨hb,hx,hg,jT,C8⟩,ho⟩ bw;dsimp only at*
  (rw[<-qeH];delta eu Hv r7 fo oS Kh Zl Zm rN Zt qo ZI im qi gF gl Z8 Z7 Zh Ze ln mr jG CO CP A3 Zbi nQ nb BU La Lb Lc S8 iY iu qn)
  rw[hx,hg];have u6:D.gW (D.au (bZ g) 6)=g.ops.map eT:=rfl;rw[u6];have N5:0<=j/\j<((l.map bZ).length:Int):=by rw[zaa];exact⟨hb.2.2.1,hb.2.2.2⟩
  refine ak N5 (aq (mL g) (mD (by rw[zaa];omega) (bw _ (λh=>by cases h) ?_)));rw[ho,zai];rfl)
 (by rintro s ae ⟨l,p,o,i,j,hi,hj,rfl,⟨h1,h2,h3,h4⟩,hp⟩;refine⟨(l,p,o,i,j,p[i.toNat],l[j.toNat]),o,rfl,⟨⟨⟨h1.1,by show i<(p.length:Int);omega,h1.2.1,by show j<(l.length:Int);omega⟩,az _ _ _ hi,az _ _ _ hj,h3,h4⟩,by simp⟩,?_⟩;rintro z rfl;exact hp _ rfl)
theorem qcP:LD X 55 6 (ah (aR 55 6) qk9):=LD.idx (by kernel_rfl) (by kernel_rfl) .nil (.cons qcO .nil)
 (A:=List ar×List Pl×List Pl×Int×Pl) (B:=List Pl) (λa o j=>md6 a.1 a.2.1 o a.2.2.2.1 j) (λa=>a.1.length)
 (λa j o=>((0<=a.2.2.2.1/\a.2.1.length<=1000)/\(∃hi:a.2.2.2.1.toNat<a.2.1.length,a.2.1[a.2.2.2.1.toNat]=a.2.2.2.2)/\a.1.length<=1000000/\a.2.2.1.length<=999/\(∀g∈a.1,cA g=true)/\(a.1.map (·.s)).Nodup)/\o=a.2.2.1++Hw (a.1.take j) a.2.2.2.2)
 (λa z=>z=(.exit 2,md3 a.1 a.2.1 (a.2.2.1++Hw a.1 a.2.2.2.2) a.2.2.2.1))
 (by
  rintro⟨l,p,o0,i,x⟩ o j ae h0 E9 Es ⟨⟨h1,⟨hi,hx⟩,h3,h4,h5,h6⟩,ho⟩ hn bw;dsimp only at*
  (rw[<-qeI];delta Zt ZI EC Zl Zm ZJ Z8 Z7 Zh fS mM fo C1 eu Hv r7 Z5 wQ qo oS Kh im qi gF gl iu Bl)
  have nq:=XI (x:=x) Es;have h7:(Hw (l.take j.toNat) x).length<=1:=(Pw x (λg hg=>h5 g (zbm hg)) (h6.sublist ((List.take_sublist _ _).map _))).1;have jT:o.length<=1000:=by rw[ho,zaj];omega
  refine bF (by rw[zaa];exact E9) ⟨l,p,o,i,j,hi,Es,rfl,⟨⟨h1.1,h0,h1.2⟩,h3,jT,ve (h5 _ (zas Es))⟩,λo' gK=>ak (by omega) (hn o' ⟨⟨h1,⟨hi,hx⟩,h3,h4,h5,h6⟩,?_⟩)⟩;rw[gK,ho,nq,hx,zaK])
 (by
  rintro⟨l,p,o0,i,x⟩ o j ae hj ⟨hc,ho⟩ bw;dsimp only at*
  (rw[<-qeI];delta Zt ZI EC Zl Zm ZJ Z8 Z7 Zh fS mM fo C1 eu Hv r7 Z5 wQ qo oS Kh im qi gF gl iu Bl)
  refine mD (by rw[zaa];omega) (bw _ (λh=>by cases h) ?_);rw[ho,zai])
 (by rintro s ae ⟨l,p,o,i,hi,rfl,⟨h1,h2,h3,h4,h5⟩,hp⟩;refine⟨(l,p,o,i,p[i.toNat]),o,rfl,⟨⟨h1,⟨hi,rfl⟩,h2,h3,h4,h5⟩,by simp[Hw]⟩,?_⟩;rintro z rfl;exact hp _ rfl)
theorem qcQ:LD X 55 3 (ah (aR 55 3) qla):=LD.idx (by kernel_rfl) (by kernel_rfl) .nil (.cons qcP .nil)
 (A:=List ar×List Pl) (B:=List Pl) (λa o i=>md3 a.1 a.2 o i) (λa=>a.2.length)
 (λa i o=>(a.2.length<=1000/\a.1.length<=1000000/\(∀g∈a.1,cA g=true)/\(a.1.map (·.s)).Nodup)/\o=K8 a.1 (a.2.take i))
 (λa z=>z=(.exit 0,⟨78,[(5,.sl 0 0 (K8 a.1 a.2).length)],[(0,⟨0,none,rh false (K8 a.1 a.2)⟩)]⟩))
 (by
  rintro⟨l,p⟩ o i ae h0 bJ bs ⟨⟨h1,h2,h3,h4⟩,ho⟩ hn bw;dsimp only at*
  (rw[<-qeJ];delta Zl Zm ZA Z8 Z7 Zh Zbk fo fS mM C1 eu Hv r7 Z5 ZW Zt ZI oS Kh im qi gF gl nQ Pa)
  have nq:=XJ (l:=l) bs;have h7:=GG h3 h4 (p.take i.toNat);rw[zau,<-ho] at h7;refine bF (by rw[zaa];exact bJ) ⟨l,p,o,i,bs,rfl,⟨⟨h0,h1⟩,h2,by omega,h3,h4⟩,λo' gK=>ak (by omega) (hn o' ⟨⟨h1,h2,h3,h4⟩,?_⟩)⟩;rw[gK,ho,nq])
 (by
  rintro⟨l,p⟩ o i ae hi ⟨hc,ho⟩ bw;dsimp only at*
  (rw[<-qeJ];delta Zl Zm ZA Z8 Z7 Zh Zbk fo fS mM C1 eu Hv r7 Z5 ZW Zt ZI oS Kh im qi gF gl nQ Pa)
  refine mD (by rw[zaa];omega) (bw _ (λh=>by cases h) ?_);rw[ho,zai])
 (by rintro s ae ⟨l,p,rfl,hc,hp⟩;refine⟨(l,p),[],rfl,⟨hc,by simp[K8]⟩,?_⟩;rintro z rfl;exact hp _ rfl)
theorem qhv:FD X 55 qeK:=FD.mk (by kernel_rfl) .nil (.cons qcQ .nil) (by
 intro ps R ae hh;obtain⟨l,p,rfl,rfl,hc,hp⟩:=hh
 (rw[<-qod];delta eu Hv r7 fo oS Zbk fS mM C1 Zbm xQ Z5 K7 ZN Xg im qi gF gl Zbl)
 exact⟨l,p,rfl,hc,λo ho=>hp o ho⟩)
theorem XK:LD X 28 20 (ah (aR 28 20) qeL):=LD.idx (by kernel_rfl) (by kernel_rfl) .nil .nil
 (A:=OfP) (B:=Nat×List D) (λa b j=>qhu a.m a.o a.y a.na a.np a.nh b.1 a.A a.P a.H b.2 a.i a.on a.k j) (λa=>a.y.cu.length)
 (λa j b=>(a.y.cu.length<=200/\a.L.length<=100000000000)/\b.1=b.2.length/\b.2=a.L++(if a.on=true then(a.y.cu.take j).map (λs=>cV (a.y.node,s)) else []))
 (λa x=> ∃cQ L',vz a.on a.y a.L.length a.L cQ L'/\x=(.exit 4,XC a.m a.o a.na a.np a.nh cQ a.A a.P a.H L' a.i a.on a.k))
 (by
  rintro a ⟨nl,L⟩ j ae h0 E9 Es ⟨⟨hd,hL⟩,vL,Na⟩ hn ho;dsimp only at*
  (rw[<-XE];delta EF za O9 RZ jH R4 xQ Ki gb re Kj ZbI XD R5 eH R6 Hy Hz HA HB HE Ca xW vN HF S9 Cg Nb VY yg yh yi BY CS BZ CT CU yV B0 B1 B2 B3 B4 wE wF wG yj Zal ZbG Zl Zm Zt uh fk yr ZI HG HI C6 je C7 fS rK qm Z8 Z7 Zh Ze Za2 Za3 yq JG)
  have e1:D.nth (a.y.cu.map bC) j.toNat=bC a.y.cu[j.toNat]:=az _ _ _ Es;have nq:(a.y.cu.take (j.toNat+1))=a.y.cu.take j.toNat++[a.y.cu[j.toNat]]:=zaf Es;rw[e1];generalize a.y.cu[j.toNat]=z at*
  have hLl:L.length<=a.L.length+200:=by
   rw[Na,zaj];split
   ·rw[zaa,zau];omega
   simp
  have N5:j<((a.y.cu.map bC).length:Int):=by rw[zaa];exact E9
  refine bF N5 (ay (λHx=>ak ⟨h0,N5⟩ (aq (iO _) (aq (eF vL rfl (by omega) (by decide)) (ak (by omega) (hn (nl+1,List.take nl L++[cV (a.y.node,z)]) ⟨⟨hd,hL⟩,?_,?_⟩))))) λqht=>ho _ (λh=>by cases h) ⟨nl,L,⟨vL,?_⟩,rfl⟩)
  ·simp[vL]
  ·rw[Hx,zap rfl] at Na⊢;rw[nq,vL,zai,Na,zaC,zaK];rfl
  rw[qht] at Na⊢;simpa using Na)
 (by
  rintro a ⟨nl,L⟩ j ae hj ⟨⟨hd,hL⟩,vL,Na⟩ ho;dsimp only at*
  (rw[<-XE];delta EF za O9 RZ jH R4 xQ Ki gb re Kj ZbI XD R5 eH R6 Hy Hz HA HB HE Ca xW vN HF S9 Cg Nb VY yg yh yi BY CS BZ CT CU yV B0 B1 B2 B3 B4 wE wF wG yj Zal ZbG Zl Zm Zt uh fk yr ZI HG HI C6 je C7 fS rK qm Z8 Z7 Zh Ze Za2 Za3 yq JG)
  refine mD (by rw[zaa];omega) (ho _ (λh=>by cases h) ⟨nl,L,⟨vL,?_⟩,rfl⟩);rw[Na,zai];cases a.on
  ·rfl
  simp[Kd,zb5])
 (by rintro s ae ⟨m,o,y,na,np,nh,nl,A,P,H,L,i,on,k,rfl,⟨h1,h2,h3⟩,hp⟩;refine⟨⟨m,o,y,na,np,nh,A,P,H,i,on,k,L⟩,(nl,L),rfl,⟨⟨h1,by rw[<-h2];exact h3⟩,h2,by simp⟩,?_⟩;rintro z ⟨cQ,L',hg,rfl⟩;exact hp cQ L' ⟨hg.1,hg.2⟩)
theorem XL:LD X 28 11 (ah (aR 28 11) qeM):=LD.idx (by kernel_rfl) (by kernel_rfl) .nil (.cons XK .nil)
 (A:=OfQ) (B:=OfB) (λa b k=>XC a.m a.o b.1 b.2.1 b.2.2.1 b.2.2.2.1 b.2.2.2.2.1 b.2.2.2.2.2.1 b.2.2.2.2.2.2.1 b.2.2.2.2.2.2.2 a.i a.on k) (λa=>a.g.ops.length)
 (λa k b=>(wN a.N a.t/\a.N<=300000000/\(0<=a.i/\a.i<a.m.length/\D.nth (a.m.map bZ) a.i.toNat=bZ a.g)/\a.g.ops.length<=200/\ ∀y∈a.g.ops,y.cu.length<=200)/\sa (JW a.on a.g.s (a.g.ops.take k) a.t) b.1 b.2.1 b.2.2.1 b.2.2.2.1 b.2.2.2.2.1 b.2.2.2.2.2.1 b.2.2.2.2.2.2.1 b.2.2.2.2.2.2.2)
 (λa x=> ∃qf qg qh cQ A' P' H' L',sa (JW a.on a.g.s a.g.ops a.t) qf qg qh cQ A' P' H' L'/\x=(.exit 2,of7 a.m a.o qf qg qh cQ A' P' H' L' a.i))
 (by
  rintro⟨m,o,g,i,on,t,N⟩ ⟨na,np,nh,nl,A,P,H,L⟩ k ae h0 wc eD ⟨hc,hR⟩ hn ho;dsimp only at*
  (rw[<-XG];delta EF za O9 RZ jH R4 xQ Ki gb re Kj ZbI XD R5 eH R6 Hy Hz HA HB HE Ca xW vN HF S9 Cg Nb Zt ZI EC HG HI C6 je C7 fS rK qm Zl Zm rN fk yr Z8 Z7 Zh K9 VY yg yh yi BY CS BZ CT CU yV B0 B1 B2 B3 B4 wE wF wG yj Zal ZbG Ze ln mr ZbM ZbL ZbK La ZbV Z5 uh ZbP ZbQ ZbZ Bj Bk ZbO ZbU ZbT ZbR yq iY iu B6 r4 B7 Zc0 ZbN ZE ZbW ZbS ZbX ZbY Lb Lc S8)
  have k7:=(hc.1.ops (on:=on) (s:=g.s) hc.2.2.2.2 k.toNat (by omega)).mono (m:=300000200) (by have:=hc.2.1;have:=hc.2.2.2.1;omega);rw[hc.2.2.1.2.2];have u6:D.gW (D.au (bZ g) 6)=g.ops.map eT:=rfl;have e1:D.nth (g.ops.map eT) k.toNat=eT g.ops[k.toNat]:=az _ _ _ eD;have lu:=Bp (on:=on) (s:=g.s) (t:=t) eD;have iT:=hc.2.2.2.2 _ (zas eD);have qj:((k.toNat:Nat):Int)=k:=by omega
  rw[u6,e1];generalize g.ops[k.toNat]=y at lu iT⊢;generalize JW on g.s (g.ops.take k.toNat) t=t1 at lu hR k7;have u0:D.aj (D.au (eT y) 0)=y.kind:=rfl;have ux:=MI y;have ru:=mL g;have gQ:0<=i/\i<(m.length:Int):=⟨hc.2.2.1.1,hc.2.2.1.2.1⟩
  have RQ:i.toNat<(m.map bZ).length:=by rw[zaa];omega
  have Nc:0<=k/\k<((g.ops.map eT).length:Int):=by rw[zaa];exact⟨h0,wc⟩
  simp only[u0];refine ak gQ (ak RQ (aq ru (bF Nc.2 (ak gQ (ak RQ (aq ru (ak Nc (aq ux ?_))))))));by_cases fO:y.kind=0
  ·rw[show(y.kind==0)=true by simp[fO],show(y.kind !=2)=true by simp[fO]];cases on with
   |true=>simp only[zbY];exact ak gQ (ak RQ (aq ru (aq (eF hR.na (by rw[hR.a,zaa]) (by have:=k7.2.1;omega) (by decide)) (aq (eF hR.np (by rw[hR.p,zaa]) (by have:=k7.1;have:=k7.2.1;omega) (by decide)) (ak gQ (ak RQ (aq ru (aq (eF hR.nh (by rw[hR.h,zaa]) (by have:=k7.2.2.1;omega) (by decide)) (⟨m,o,y,na+1,np+1,nh+1,nl,List.take na A++[aL (g.s.1,g.s.2,k)],List.take np P++[bn (tU y)],List.take nh H++[cV (y.node,g.s)],L,i,true,k,rfl,⟨iT,hR.nl.trans (by rw[hR.l,zaa]),by have:=hR.nl;have:=k7.2.2.2;omega⟩,λcQ L' lI=>ak (by omega) (hn (na+1,np+1,nh+1,cQ,List.take na A++[aL (g.s.1,g.s.2,k)],List.take np P++[bn (tU y)],List.take nh H++[cV (y.node,g.s)],L') ⟨hc,by rw[lu];exact(hR.go qj lI).1 (by simp[gm,fO]) (by simp[gL,fO])⟩)⟩)))))))))
   |false=>simp only[zbY];exact ak gQ (ak RQ (aq ru (aq (eF hR.na (by rw[hR.a,zaa]) (by have:=k7.2.1;omega) (by decide)) (aq (eF hR.np (by rw[hR.p,zaa]) (by have:=k7.1;have:=k7.2.1;omega) (by decide)) (⟨m,o,y,na+1,np+1,nh,nl,List.take na A++[aL (g.s.1,g.s.2,k)],List.take np P++[bn (tU y)],H,L,i,false,k,rfl,⟨iT,hR.nl.trans (by rw[hR.l,zaa]),by have:=hR.nl;have:=k7.2.2.2;omega⟩,λcQ L' lI=>ak (by omega) (hn (na+1,np+1,nh,cQ,List.take na A++[aL (g.s.1,g.s.2,k)],List.take np P++[bn (tU y)],H,L') ⟨hc,by rw[lu];exact(hR.go qj lI).2.1 (by simp[gm,fO]) (by simp[gL,fO])⟩)⟩)))))
  by_cases fU:y.kind=1
  ·rw[show(y.kind==0)=false by simp[fO],show(y.kind==1)=true by simp[fU],show(y.kind !=2)=true by simp[fU]];cases on with
   |true=>simp only[zbY,zbl];exact ak gQ (ak RQ (aq ru (aq (eF hR.na (by rw[hR.a,zaa]) (by have:=k7.2.1;omega) (by decide)) (aq (eF hR.np (by rw[hR.p,zaa]) (by have:=k7.1;have:=k7.2.1;omega) (by decide)) (ak gQ (ak RQ (aq ru (aq (eF hR.nh (by rw[hR.h,zaa]) (by have:=k7.2.2.1;omega) (by decide)) (⟨m,o,y,na+1,np+1,nh+1,nl,List.take na A++[aL (g.s.1,g.s.2,k)],List.take np P++[bn (tU y)],List.take nh H++[cV (y.node,g.s)],L,i,true,k,rfl,⟨iT,hR.nl.trans (by rw[hR.l,zaa]),by have:=hR.nl;have:=k7.2.2.2;omega⟩,λcQ L' lI=>ak (by omega) (hn (na+1,np+1,nh+1,cQ,List.take na A++[aL (g.s.1,g.s.2,k)],List.take np P++[bn (tU y)],List.take nh H++[cV (y.node,g.s)],L') ⟨hc,by rw[lu];exact(hR.go qj lI).1 (by simp[gm,fU]) (by simp[gL,fU])⟩)⟩)))))))))
   |false=>simp only[zbY,zbl];exact⟨m,o,y,na,np,nh,nl,A,P,H,L,i,false,k,rfl,⟨iT,hR.nl.trans (by rw[hR.l,zaa]),by have:=hR.nl;have:=k7.2.2.2;omega⟩,λcQ L' lI=>ak (by omega) (hn (na,np,nh,cQ,A,P,H,L') ⟨hc,by rw[lu];exact(hR.go qj lI).2.2.2 (by simp[gm,fU]) (by simp[gL,fU])⟩)⟩
  by_cases Nd:y.kind=2
  ·rw[show(y.kind==0)=false by simp[fO],show(y.kind==1)=false by simp[fU],show(y.kind !=2)=false by simp[Nd]];cases on with
   |true=>simp only[zbl];exact⟨m,o,y,na,np,nh,nl,A,P,H,L,i,true,k,rfl,⟨iT,hR.nl.trans (by rw[hR.l,zaa]),by have:=hR.nl;have:=k7.2.2.2;omega⟩,λcQ L' lI=>ak (by omega) (hn (na,np,nh,cQ,A,P,H,L') ⟨hc,by rw[lu];exact(hR.go qj lI).2.2.2 (by simp[gm,Nd]) (by simp[gL,Nd])⟩)⟩
   |false=>simp only[zbl];exact⟨m,o,y,na,np,nh,nl,A,P,H,L,i,false,k,rfl,⟨iT,hR.nl.trans (by rw[hR.l,zaa]),by have:=hR.nl;have:=k7.2.2.2;omega⟩,λcQ L' lI=>ak (by omega) (hn (na,np,nh,cQ,A,P,H,L') ⟨hc,by rw[lu];exact(hR.go qj lI).2.2.2 (by simp[gm,Nd]) (by simp[gL,Nd])⟩)⟩
  rw[show(y.kind==0)=false by simp[fO],show(y.kind==1)=false by simp[fU],show(y.kind !=2)=true by simp[Nd]];cases on with
  |true=>simp only[zbl];exact ak gQ (ak RQ (aq ru (aq (eF hR.nh (by rw[hR.h,zaa]) (by have:=k7.2.2.1;omega) (by decide)) (⟨m,o,y,na,np,nh+1,nl,A,P,List.take nh H++[cV (y.node,g.s)],L,i,true,k,rfl,⟨iT,hR.nl.trans (by rw[hR.l,zaa]),by have:=hR.nl;have:=k7.2.2.2;omega⟩,λcQ L' lI=>ak (by omega) (hn (na,np,nh+1,cQ,A,P,List.take nh H++[cV (y.node,g.s)],L') ⟨hc,by rw[lu];exact(hR.go qj lI).2.2.1 (by simp[gm,fO,fU]) (by simp[gL,Nd])⟩)⟩))))
  |false=>simp only[zbl];exact⟨m,o,y,na,np,nh,nl,A,P,H,L,i,false,k,rfl,⟨iT,hR.nl.trans (by rw[hR.l,zaa]),by have:=hR.nl;have:=k7.2.2.2;omega⟩,λcQ L' lI=>ak (by omega) (hn (na,np,nh,cQ,A,P,H,L') ⟨hc,by rw[lu];exact(hR.go qj lI).2.2.2 (by simp[gm,fO]) (by simp[gL])⟩)⟩)
 (by
  rintro⟨m,o,g,i,on,t,N⟩ ⟨na,np,nh,nl,A,P,H,L⟩ k ae hk ⟨hc,hR⟩ ho;dsimp only at*
  (rw[<-XG];delta EF za O9 RZ jH R4 xQ Ki gb re Kj ZbI XD R5 eH R6 Hy Hz HA HB HE Ca xW vN HF S9 Cg Nb Zt ZI EC HG HI C6 je C7 fS rK qm Zl Zm rN fk yr Z8 Z7 Zh K9 VY yg yh yi BY CS BZ CT CU yV B0 B1 B2 B3 B4 wE wF wG yj Zal ZbG Ze ln mr ZbM ZbL ZbK La ZbV Z5 uh ZbP ZbQ ZbZ Bj Bk ZbO ZbU ZbT ZbR yq iY iu B6 r4 B7 Zc0 ZbN ZE ZbW ZbS ZbX ZbY Lb Lc S8)
  rw[hc.2.2.1.2.2];have u6:D.gW (D.au (bZ g) 6)=g.ops.map eT:=rfl;rw[u6];rw[zai] at hR;have gQ:0<=i/\i<(m.length:Int):=⟨hc.2.2.1.1,hc.2.2.1.2.1⟩
  have RQ:i.toNat<(m.map bZ).length:=by rw[zaa];omega
  exact ak gQ (ak RQ (aq (mL g) (mD (by rw[zaa];omega) (ho _ (λh=>by cases h) ⟨na,np,nh,nl,A,P,H,L,hR,rfl⟩)))))
 (by rintro s ae ⟨m,o,na,np,nh,nl,A,P,H,L,i,on,t,N,hi,rfl,⟨h1,h2,h3,h4⟩,hp⟩;refine⟨⟨m,o,m[i.toNat],i,on,t,N⟩,(na,np,nh,nl,A,P,H,L),rfl,⟨⟨h2,h3,⟨h4.1,by show i<(m.length:Int);omega,az _ _ _ hi⟩,h4.2.1,h4.2.2⟩,h1⟩,?_⟩;rintro z ⟨qf,qg,qh,cQ,A',P',H',L',g1,rfl⟩;exact hp qf qg qh cQ A' P' H' L' g1)
end
def GL:a8:=λps R ae=> ∃l,ps=[dw l]/\R=[]/\CW l/\ ∀o,o=c8 l->ae (.sl 0 0 o.length,[(0,⟨0,none,nj false o⟩)])
section
variable{X:XF}
end
theorem PE l:(c8 l).length<=l.length:=by have h1:=Gq ((aJ l).map j9);have h2:=mh l;rw[zaa] at h1;unfold c8;omega
section
variable{X:XF}{w0:World}(hX:cz PR w0 X.cf)
include hX
end
def qlb:S->K (PX×S):=λs ae=> ∃m o,s=of7 m o 0 0 0 0 [] [] [] [] 0/\(m.length<=1000000/\o.length<=1000000/\ ∀g∈m,cA g=true)/\ ∀na np nh nl A P H L,sa (ml o m) na np nh nl A P H L->ae (.exit 0,⟨140,[(0,.sl 0 0 m.length),(2,.ref 1 0 0),(3,.ref 7 0 0),(4,.sl 13 0 na),(5,.sl 14 0 np)],ofR m o nh nl A P H L⟩)
def Zc3 bq:=D.sl 2 (List.take (eH bq) (gb bq))
def R7 o_2:=P.d (D.sl 3 (SF o_2))
def Ld cg:=List.take (fS cg) (List.map bZ cg)
def Zc2 cg bq:=S.mk 140 (qm cg::C7::C6::(4,P.sl 13 0 0)::(5,P.sl 14 0 0)::K7) [Cg cg,HF,xW,HE,HB,HA,Hy,(7,En.mk 0 none (Obj.box (81:TypeId) (P.sl 8 0 (eH bq)::R5::P.sl 10 0 0::P.sl 11 0 0::XD))),Kj bq,Ki,(10,Hz),(11,Hz),RZ,(13,tO),(14,xQ)]
def Zc6 m:=[P.d (D.sl 7 (Ld m))]
def yw av:=[gF av]
theorem qoe l ae:(∃av,yw l=yw av/\Zx/\CW av/\ ∀m,m=aJ av-> ∃l,Zc6 m=yw l/\Zx/\mM l/\ ∀o,o=List.map j9 l-> ∃l,Z6O o=[P.d (D.sl 4 (List.map cr l))]/\Zx/\wK l/\ ∀o,o=Ei l-> ∃cg bq,Zc2 m o=Zc2 cg bq/\(mM cg/\B9 bq/\Zbk cg)/\ ∀na np nh nl A P H L,sa (ml bq cg) na np nh nl A P H L-> ∃a l,[Pi.P.d (D.sl 3 (List.take na A)),Pi.P.d (D.sl 8 (List.take np P))]=[gR a,im l]/\Zx/\(j8 a/\fo l=dH a)/\ ∀o,o=r8 (M6 a l)-> ∃l p,[Pi.P.d (D.sl 7 (Ld cg)),Pi.P.d (D.sl 8 (List.take (fo o) (eu o)))]=[gF l,im p]/\Zx/\Zbm p l/\ ∀o,o=K8 l p-> ∃h g,[Pi.P.d (D.sl 5 (List.take nh H)),Pi.P.d (D.sl 5 (List.take nl L))]=[oT h,oT g]/\Zx/\(tX h/\tX g)/\ ∀o_2,o_2=C3 h g-> ∃l v,[Pi.P.d (D.sl 8 (List.take (fo o) (eu o))),R7 o_2]=[im l,gR v]/\Zx/\(C1 l/\j8 v)/\ae (Pi.P.d (D.agg [Zc3 bq,D.sl 8 (List.take (fo o) (eu o)),D.sl 5 (List.take nh H),D.sl 5 (List.take nl L),D.sl 6 (List.take (List.length (dy (fP l) v)) (List.map cv (dy (fP l) v)))]),[]))=(aI [(54,qjI),(18,qhk),(17,qhn),(56,qk3),(55,qeK),(58,qer),(57,Pp)] [(7,ah (aR 28 7) qlb)] 28 [dw l] []) ae:=by kernel_rfl
def XM l (t:Tl):=K8 l (r8 (M6 t.a t.p))
def qlc l t:=dy (fP (XM l t)) (C3 t.h t.g)
def qld(o:List aF)(p:List Pl)(h g:List aM)(x:List It):P:= .d (.agg [.sl 2 (o.map bC),.sl 8 (p.map bn),.sl 5 (h.map cV),.sl 5 (g.map cV),.sl 6 (x.map cv)])
def SmS l:=CW l/\SmV l
def qeO:a8:=λps R ae=> ∃l,ps=[dw l]/\R=[]/\SmS l/\ ∀o t p x,o=c8 l->t=ml o (aJ l)->p=XM (aJ l) t->x=qlc (aJ l) t->ae (qld o p t.h t.g x,[])
def HJ(f:D->Option D)(o:List aF):= ∀s,f (bC s)=if s∈o then some (.agg []) else none
abbrev vwG(g:List ar)(o:List aF)(f:D->Option D)(c:Int)(d:D->Option D)(n:Int)(na np nh nl:Nat)(A P H L:List D):List (Nat×En):=[(0,⟨0,some 0,.box 74 [.sl 1 0 g.length,.sl 2 0 o.length,.mp 3 0,.sl 5 0 na,.sl 6 0 np,.mp 4 0,.sl 7 0 nh,.sl 8 0 nl]⟩),(1,⟨0,some 1,pW false g⟩),(2,⟨0,some 2,nj false o⟩),(3,⟨0,some 3,onM f c⟩),(4,⟨0,some 6,qcG d n⟩),(5,⟨0,none,.arr 49 false A⟩),(6,⟨0,none,.arr 108 false P⟩),(7,⟨0,none,.arr 121 false H⟩),(8,⟨0,none,.arr 121 false L⟩)]
def qle:a8:=λps R ae=> ∃x g o f c d n na np nh nl A P H L t N e,ps=[.ref 0 0 0,.d (bZ x)]/\R=qkR g o f c d n na np nh nl A P H L/\(HJ f o/\sa t na np nh nl A P H L/\kD d e/\wN N t/\N<=300000000/\x.ops.length<=200/\ ∀y∈x.ops,y.cu.length<=200)/\
 ∀d' n' qf qg qh cQ A' P' H' L',sa (tlG o t x) qf qg qh cQ A' P' H' L'->kD d' (x.ops.foldl r9 e)->ae (.dz [],vwG g o f c d' n' qf qg qh cQ A' P' H' L')
abbrev vwL(g:List ar)(o:List aF)(f:D->Option D)(c:Int)(d:D->Option D)(n:Int)(na np nh nl:Nat)(A P H L:List D):List (Nat×En):=[(0,⟨0,none,vwB g.length o.length na np nh nl⟩),(1,⟨0,none,pW false g⟩),(2,⟨0,none,nj false o⟩),(3,⟨0,none,onM f c⟩),(4,⟨0,none,.arr 49 false A⟩),(5,⟨0,none,.arr 108 false P⟩),(6,⟨0,none,qcG d n⟩),(7,⟨0,none,.arr 121 false H⟩),(8,⟨0,none,.arr 121 false L⟩)]
abbrev noD:D->Option D:=λ_=>none
abbrev vw0 g o f c:=vwL g o f c noD 0 0 0 0 0 [] [] [] []
abbrev vo5(l g:List ar)(h:List Hd)(f:D->Option D)(c:Int)(i:Int):S:=⟨98,[(3,.ref 0 0 0),(4,.mp 9 0),(5,.sl 10 0 h.length),(6,.sl 11 0 h.length),(20,dw l),(21,iD ((l.map bZ).length:Int)),(22,iD i)],vw0 g [] noD 0++[(9,⟨0,none,mpS f c⟩),(10,⟨0,none,nj false (h.map (·.2))⟩),(11,⟨0,none,nj false (h.map (·.1))⟩)]⟩
abbrev qlf(g:List ar)(h:List Hd):S:=⟨98,[(3,.ref 0 0 0),(5,.sl 9 0 h.length),(6,.sl 10 0 h.length)],vw0 g [] noD 0++[(9,⟨0,none,nj false (h.map (·.2))⟩),(10,⟨0,none,nj false (h.map (·.1))⟩)]⟩
def Zcl h:=En.mk 0 none (Obj.arr (27:TypeId) false (y7 h))
def Zck h:=En.mk 0 none (Obj.arr (27:TypeId) false (Gw h))
def Zcq g l i:=En.mk 0 none (Obj.arr (31:TypeId) false (Ld g++[OV l i]))
def Zca:=[mZ,P.sl 4 0 0,vN,P.mp 6 0,P.sl 7 0 0,P.sl 8 0 0]
def Zcb:=P.sl 2 0 0::Zca
def Zc8 l i:=[(20,gF l),(21,P.d (D.int .i64 (↑(iu l):Int))),(22,Zm i)]
def Zc7:=(4,P.mp 9 0)
def Zco l i:=D.agg [Bk l i,D.int .i64 (D.aj (D.au (ln l i) mC))]
def Zcp l i f c:=(9,En.mk 0 none (Obj.map 27 (λk'=>bif D.gH (Zco l i) k' then some (D.int .i64 (D.aj (aQ (f (Zco l i)) Z5)+(1:Int))) else aX (Zco l i) (aQ (f (Zco l i)) Z5) f k') (bif Option.isSome (f (Ek l i)) then c else c+(1:Int)) false))
def Zcn l i f:=aQ (aX (Ek l i) (D.int .i64 (D.aj (aQ (f (Ek l i)) Z5)+(1:Int))) (aX (Ek l i) (aQ (f (Ek l i)) Z5) f) (Ek l i)) Z5
def Zcm h:=[(10,Zck h),(11,Zcl h)]
def XO:=(8,Hz)
def XP:=(7,Hz)
def XQ:=(6,CN)
def XR:=(5,xQ)
def XS:=(4,tO)
def Zce:=(3,Z6k)
def GM g:=(1,En.mk 0 none (tT g))
def Zcc g:=(0,En.mk 0 none (Obj.box (74:TypeId) (rP g::Zcb)))
def Zc9 h l i:=dQ::Zc7::(5,P.sl 10 0 (iR h))::(6,P.sl 11 0 (iR h))::Zc8 l i
theorem qeP l g h f c i ae:(bif Bl i l then ob (qn i l) (ob (iY l i) (∃bp,[P.d (OV l i)]=[nT bp]/\Zx/\VZ bp/\ ∀e,(e=if cA bp=true then(0:Int) else(80:Int))->bif e !=(0:Int) then ob (Zh i) (ae (PX.normal,S.mk 98 (Zc9 h l i) (Zcc g::GM g::xW::Zce::XS::XR::XQ::XP::XO::(9,En.mk 0 none (Obj.map 27 f c false))::Zcm h))) else ob (bO PR (3:TypeId) (aQ (f (Ek l i)) Z5)) (ob (decide (Z7<=D.aj (aQ (f (Ek l i)) Z5)+(1:Int)/\D.aj (aQ (f (Ek l i)) Z5)+(1:Int)<=Z8)) (ob (bO PR (3:TypeId) (Zcn l i f)) (bif decide (D.aj (Zcn l i f)>(1:Int)) then ob (Zh i) (ae (PX.normal,S.mk 98 (Zc9 h l i) (Zcc g::GM g::xW::Zce::XS::XR::XQ::XP::XO::Zcp l i f c::Zcm h))) else ob (Nat.ble (fS g) (iu g)&&aG (SN g l i) 88) (ob (Nat.ble (iR h) (List.length (y7 h))&&aG (iR h+List.length [Ek l i]) 16) (ob (Nat.ble (iR h) (List.length (Gw h))&&aG (iR h+List.length [D.agg (Z6D l i)]) 16) (ob (Zh i) (ae (PX.normal,S.mk 98 (dQ::Zc7::(5,P.sl 10 0 (iR h+List.length [D.agg (Z6D l i)]))::(6,P.sl 11 0 (iR h+List.length [Ek l i]))::Zc8 l i) [(0,En.mk 0 none (Obj.box (74:TypeId) (P.sl 1 0 (SN g l i)::Zcb))),(1,Zcq g l i),xW,Zce,XS,XR,XQ,XP,XO,Zcp l i f c,(10,En.mk 0 none (Obj.arr (27:TypeId) false (List.take (iR h) (Gw h)++[D.agg (Z6D l i)]))),(11,En.mk 0 none (Obj.arr (27:TypeId) false (List.take (iR h) (y7 h)++[Ek l i])))])))))))))) else ae (PX.exit 0,S.mk 98 [dQ,(5,P.sl 9 0 (iR h)),(6,P.sl 10 0 (iR h))] [Zcc g,GM g,xW,Zce,XS,XR,XQ,XP,XO,(9,Zck h),(10,Zcl h)]))=(cC [(43,qbI)] [] [] 24 5 (vo5 l g h f c i)) ae:=by kernel_rfl
def qlg:S->K (PX×S):=λs ae=> ∃l,s=vo5 l [] [] noD 0 0/\CW l/\ ∀g h,g=aJ l->h=g.map j9->ae (.exit 0,qlf g h)
abbrev qhw(g:List ar)(o:List aF)(f:D->Option D)(c:Int)(i:Int):S:=⟨98,[(3,.ref 0 0 0),(71,.sl 2 0 o.length),(72,iD (o.length:Int)),(73,iD i)],vw0 g o f c⟩
def Zcs:=[XS,XR,XQ,XP,XO]
def Zcr g o:=(0,En.mk 0 none (Obj.box (74:TypeId) (rP g::wR o::Zca)))
def Zct g o f c:=Zcr g o::GM g::(2,re o)::(3,En.mk 0 none (Obj.map 27 f c false))::Zcs
theorem XT g o f c i ae:(bif S0 i o then ob (Z9t i o) (ob (Hq i o) (ob (uf o i) (ob (Zh i) (ae (PX.normal,S.mk 98 [dQ,(71,wR o),(72,P.d (D.int .i64 (↑(eH o):Int))),(73,Zm i)] (Zcr g o::GM g::(2,re o)::(3,En.mk 0 none (Obj.map 27 (λk'=>bif D.gH (D.agg [D.int .i64 (Gj o i),D.int .i64 (D.aj (D.au (D.nth (gb o) (Ze i)) mC))]) k' then some jd else f k') (bif Option.isSome (f (D.agg (Gk o i))) then c else c+(1:Int)) false))::Zcs)))))) else ae (PX.exit 2,S.mk 98 K5 (Zct g o f c)))=(cC [] [] [] 24 15 (qhw g o f c i)) ae:=by kernel_rfl
def qeQ:S->K (PX×S):=λs ae=> ∃g o,s=qhw g o noD 0 0/\o.length<=1000000/\ ∀f c,HJ f o->ae (.exit 2,⟨98,[(3,.ref 0 0 0)],vw0 g o f c⟩)
abbrev qhx(g:List ar)(o:List aF)(f:D->Option D)(c:Int)(d:D->Option D)(n:Int)(na np nh nl:Nat)(A P H L:List D)(i:Int):S:=⟨98,[(3,.ref 0 0 0),(87,.sl 1 0 g.length),(88,iD (g.length:Int)),(89,iD i)],vwL g o f c d n na np nh nl A P H L⟩
def Zcv bp bq qf qg qh cQ GK mF A' P' d' n' H' L':=(0,En.mk 0 none (Obj.box (74:TypeId) (rP bp::wR bq::mZ::P.sl 4 0 qf::Ey qg::S7 qh cQ)))::GM bp::(2,re bq)::(3,En.mk 0 none (Obj.map 27 GK mF false))::vw A'::vv P'::(6,D5 d' n')::ZaG H' L'
def Zcu bp bq kY kZ mO iA GK mF Cd Ce d_1 iC Cf xU:=[zj bp bq kY kZ mO iA,nW bp,nV bq,nU GK mF,(4,En.mk 0 (some 4) (Obj.arr (49:TypeId) false Cd)),(5,En.mk 0 (some 5) (Obj.arr (108:TypeId) false Ce)),vu d_1 iC,(7,En.mk 0 (some 7) (Obj.arr (121:TypeId) false Cf)),(8,En.mk 0 (some 8) (Obj.arr (121:TypeId) false xU))]
theorem XU g o f c d n na np nh nl A P H L i ae:(bif SM i g then ob (B7 i g) (ob (B6 i g) (ob (iY g i) (∃x bp bq GK mF d_1 iC kY kZ mO iA Cd Ce Cf xU t N e,[b9,Pi.P.d (OV g i)]=[b9,nT x]/\Zcu g o na np nh nl f c A P d n H L=Zcu bp bq kY kZ mO iA GK mF Cd Ce d_1 iC Cf xU/\(HJ GK bq/\sa t kY kZ mO iA Cd Ce Cf xU/\kD d_1 e/\wN N t/\N<=300000000/\List.length (ar.ops x)<=200/\ ∀y,y∈ar.ops x->K9 y)/\ ∀d' n' qf qg qh cQ A' P' H' L',sa (tlG bq t x) qf qg qh cQ A' P' H' L'->kD d' (List.foldl r9 e (ar.ops x))->ob (Zh i) (ae (PX.normal,S.mk 98 [dQ,(87,rP g),(88,Pi.P.d (D.int .i64 (r4 g))),(89,Zm i)] (Zcv bp bq qf qg qh cQ GK mF A' P' d' n' H' L')))))) else ae (PX.exit 4,S.mk 98 K5 (Zcv g o na np nh nl f c A P d n H L)))=(cC [] [(45,qle)] [] 24 20 (qhx g o f c d n na np nh nl A P H L i)) ae:=by kernel_rfl
def ri(g:List ar):=(g.flatMap (·.ops)).foldl r9 (λ_=>none)
def qeR:S->K (PX×S):=λs ae=> ∃g o f c,s=qhx g o f c noD 0 0 0 0 0 [] [] [] [] 0/\(HJ f o/\g.length<=1000000/\ ∀x∈g,cA x=true)/\ ∀d n na np nh nl A P H L,sa (ml o g) na np nh nl A P H L->kD d (ri g)->ae (.exit 4,⟨98,[(3,.ref 0 0 0)],vwL g o f c d n na np nh nl A P H L⟩)
def Zcy g o GK mF:=S.mk 98 [dQ,(87,rP g),(88,P.d (D.int .i64 (r4 g))),(89,P.d Z5)] (Zct g o GK mF)
def Zcx bq bp:=S.mk 98 [dQ,(71,wR bq),(72,P.d (D.int .i64 (↑(eH bq):Int))),(73,P.d Z5)] (Zcr bp bq::GM bp::(2,re bq)::Zce::Zcs)
def Zcw av:=S.mk 98 [dQ,Zc7,(5,P.sl 10 0 0),(6,P.sl 11 0 0),(20,gF av),(21,P.d (D.int .i64 (↑(iu av):Int))),(22,P.d Z5)] [(0,En.mk 0 none (Obj.box (74:TypeId) (Bu::Zcb))),(1,SO),xW,Zce,XS,XR,XQ,XP,XO,(9,Z6k),(10,Ca),(11,Ca)]
theorem qof l ae:(∃av,Zcw l=Zcw av/\CW av/\ ∀g h,g=aJ av->h=List.map j9 g-> ∃l,[P.d (D.sl 2 (List.take (iR h) (y7 h))),P.d (D.sl 2 (List.take (iR h) (Gw h)))]=Z6M l/\Zx/\wK l/\ ∀o,o=Ei l-> ∃bp bq,Zcx o g=Zcx bq bp/\B9 bq/\ ∀f c,HJ f bq-> ∃g o GK mF,Zcy bp bq f c=Zcy g o GK mF/\(HJ GK o/\mM g/\Zbk g)/\ ∀d n na np nh nl A P H L,sa (ml o g) na np nh nl A P H L->kD d (ri g)->ae (b9,Zcv g o na np nh nl GK mF A P d n H L))=(gB [] [(44,qjQ)] [(5,ah (aR 24 5) qlg),(15,ah (aR 24 15) qeQ),(20,ah (aR 24 20) qeR)] 24 [dw l] []) ae:=by kernel_rfl
def qhy:a8:=λps R ae=> ∃l,ps=[dw l]/\R=[]/\CW l/\ ∀g o f c d n na np nh nl A P H L,g=aJ l->o=c8 l->HJ f o->sa (ml o g) na np nh nl A P H L->kD d (ri g)->ae (.ref 0 0 0,vwL g o f c d n na np nh nl A P H L)
theorem qlh l ae:(∃av,yw l=yw av/\Zx/\CW av/\ ∀(g:List ar) (o:List aF) (f:D->Option D) (_:Int) (d:D->Option D) (_:Int) (na np nh nl:Nat) (A P H L:List D),g=aJ av->o=c8 av->HJ f o->sa (ml o g) na np nh nl A P H L->kD d (ri g)->Za1 ae o)=(gB [] [(24,qhy)] [] 13 [dw l] []) ae:=by kernel_rfl
theorem GN: ∀{l:List ar},(∀g∈l,cA g=true)->dx l<=200*l.length
 | [],_=>by simp[mn]
 |g::r,h=>by have h1:=GN (l:=r) λx hx=>h x (.tail _ hx);have h2:=ve (h g (.head _));rw[ju,zao];omega
theorem HJ.none:HJ noD []:=λs=>by rw[zan (by simp)]
theorem HJ.go{f}{o:List aF}{i}(hi:i<o.length)(h:HJ f (o.take i)):HJ (λk'=>bif D.gH (bC o[i]) k' then some (.agg []) else f k') (o.take (i+1)):=λs=>by
 show(bif D.gH (bC o[i]) (bC s) then some (D.agg []) else f (bC s))=_;rw[qho,h s,zaf hi];by_cases hs:o[i]=s
 ·subst hs;rw[show(o[i]==o[i])=true by simp];show some (D.agg [])=_;rw[zap (zba _ (.head _))]
 rw[show(o[i]==s)=false by simpa using hs];show(if s∈o.take i then some (D.agg []) else Option.none)=_;by_cases hm:s∈o.take i
 ·rw[zap hm,zap (zbg _ hm)]
 rw[zan hm,zan (λhh=>(zaz.1 hh).elim hm λh2=>hs (zaJ.1 h2).symm)]
theorem R8{g:List ar}{i}(hi:i<g.length):ri (g.take (i+1))=g[i].ops.foldl r9 (ri (g.take i)):=by unfold ri;rw[zaf hi,zce,zaY];simp
theorem isU:bO PR 103 (.agg [])=true:=by kernel_rfl
section
variable{X:XF}{w0:World}(hX:cz PR w0 X.cf)
include hX
theorem qli:ND w0 45 qle:=ND.mk hX Wr (by kernel_rfl) (by kernel_rfl) .nil .nil (.loop (by decide) (qkS hX).T .nil) (by
 intro ps R ae hh;obtain⟨x,g,o,f,c,d,n,na,np,nh,nl,A,P,H,L,t,N,e,g1,g2,hc,hp⟩:=hh
 (rw[g1,g2,<-qoa];delta jH ZaG EF za nP Ey mZ eH wR fS rP K9 fk XA rb nL nM qd sP kc kL CV vu vv vw nU gb nV tT nW S7 zj Z5 Z3q yW S4 S5 S6 b9 gD jd)
 have hf:f (D.agg [D.int .i64 x.s.1,D.int .i64 x.s.2])=if x.s∈o then some (.agg []) else none:=hc.1 x.s
 rw[hf];by_cases hm:x.s∈o
 ·rw[zap hm];exact aq isU ⟨x,g,o,f,c,d,n,na,np,nh,nl,A,P,H,L,true,t,N,e,rfl,hc.2,λd' n' qf qg qh cQ A' P' H' L' g1 g2=>hp d' n' qf qg qh cQ A' P' H' L' (by unfold tlG;rw[za0 hm];exact g1) g2⟩
 rw[zan hm];exact aq isU ⟨x,g,o,f,c,d,n,na,np,nh,nl,A,P,H,L,false,t,N,e,rfl,hc.2,λd' n' qf qg qh cQ A' P' H' L' g1 g2=>hp d' n' qf qg qh cQ A' P' H' L' (by unfold tlG;rw[zaS hm];exact g1) g2⟩)
theorem qlj:LN w0 24 5 (ah (aR 24 5) qlg):=LN.idx hX Wr (by kernel_rfl) (by kernel_rfl) (by kernel_rfl) (.cons qjC .nil) .nil .nil
 (A:=List ar) (B:=List ar×List aF×Int) (λl b i=>vo5 l b.1 (b.1.map j9) (cM b.2.1) b.2.2 i) (λl=>l.length) (λl i b=>CW l/\b.1=aJ (l.take i)/\CY b.2.1 b.1/\b.2.1.length<=i)
 (λl x=>x=(.exit 0,qlf (aJ l) ((aJ l).map j9)))
 (by
  rintro l ⟨o,U,c⟩ i ae h0 bJ bs ⟨hs,rfl,hU,SP⟩ hn ho;dsimp only at*
  (rw[<-qeP];delta y7 Zcl Gw Zck Ze ln Bj Bk OV fS Ld Zcq vN mZ Zca Zcb Zl Zm iu gF Zc8 Zc7 b9 dQ Z6D iR SN Ek Z5 mC Zco Zcp Zcn Z8 Z7 Zcm Hz XO XP Ju CN XQ xQ XR tO XS Z6k Zce Ca xW tT GM rP Zcc Zc9 Zh Zx nL nM kc kL nT iY qn Bl)
  have e1:D.nth (l.map bZ) i.toNat=bZ l[i.toNat]:=az _ _ _ bs;rw[e1];have hsg:=hs.2 _ (zas bs);have yl:=xK bs;have jT:=mh (l.take i.toNat);rw[zau] at jT;generalize l[i.toNat]=g at yl hsg;have qJ:=hs.1;have t1:D.agg [D.int .i64 (D.aj (D.au (bZ g) 0)),D.int .i64 (D.aj (D.au (bZ g) 1))]=bC g.s:=rfl;have v1: ∀n:Int,D.aj (iE n)=n:=λ_=>rfl;have g0:aQ (cM U (bC g.s)) (.int .i64 0)=iE (U.count g.s:Int):=wI U g.s;have Hj:=zb9 (a:=g.s) (l:=U);have u2:=λz=>OU U g.s z;have u3:=λz=>MO U g.s z;have g1:aQ (cM (g.s::U) (bC g.s)) (.int .i64 0)= .int .i64 ((U.count g.s:Int)+1):=by have:=wI (g.s::U) g.s;rw[zbP] at this;exact this
  have CD:(U.count g.s:Int)=0↔ ¬g.s∈U:=by rw[<-zde];omega
  have hcb:0<=(U.count g.s:Int)/\(U.count g.s:Int)<=1000000:=by have:=hs.1;omega
  generalize (U.count g.s:Int)=cn at g0 u2 u3 g1 CD hcb;rw[t1,g0];simp only[v1];have gQ:i<((l.map bZ).length:Int):=by rw[zaa];exact bJ
  refine bF gQ (ak ⟨h0,gQ⟩ (aq (mL _) ⟨g,rfl,rfl,hsg,λe he=>Jh (λh1=>ak (by omega) (hn (aJ (l.take i.toNat),U,c) ⟨hs,?_,hU,Nat.le_succ_of_le SP⟩)) λh1=> ?_⟩))
  ·rw[yl,OW];cases hg:cA g with
   |false=>rfl
   |true=>rw[hg] at he;exact absurd he h1
  have hg:cA g=true:=by
   cases hg:cA g with
   |true=>rfl
   |false=>rw[hg,zan (by simp)] at he;omega
  refine aq (JS _) (ak (by omega) ?_);rw[u2,g1,u3];refine aq (JS _) ?_;have v2: ∀n:Int,D.aj (D.int .i64 n)=n:=λ_=>rfl;simp only[v2];refine dY (λh2=>ak (by omega) (hn (aJ (l.take i.toNat),g.s::U,_) ⟨hs,?_,hU.had ?_,zcb SP⟩)) λh2=> ?_
  ·have hx:g.s∈U:=zaZ λh=>by have:=CD.2 h;omega
   rw[yl,JQ ((hU g.s).1 hx)]
  ·exact zaZ λh=>by have:=CD.2 h;omega
  have hx: ¬g.s∈U:=CD.1 (by omega);have CK:((aJ (l.take i.toNat)).any λx=>x.s==g.s)=false:=by rw[<-za6,<-hU g.s];exact hx
  have hy:=λc':Int=>hn (aJ (l.take i.toNat)++[g],g.s::U,c') ⟨hs,by rw[yl,JR hg CK],hU.new,zcb SP⟩;generalize aJ (l.take i.toNat)=r at*
  have p0:List.take r.length (r.map bZ)++[bZ g]=(r++[g]).map bZ:=b7 bZ r g;have p1:List.take (r.map j9).length (((r.map j9).map λx=>x.1).map bC)++[bC g.s]=(((r++[g]).map j9).map λx=>x.1).map bC:=by rw[zak (by simp)];simp[j9]
  have p2:List.take (r.map j9).length (((r.map j9).map λx=>x.2).map bC)++[bC g.dZ]=(((r++[g]).map j9).map λx=>x.2).map bC:=by rw[zak (by simp)];simp[j9]
  have q0:(r++[g]).length=r.length+1:=by simp
  have q1:((r++[g]).map j9).length=(r.map j9).length+1:=by simp
  simp only[vo5,vw0,vwL,vwB,pW,nj] at hy;rw[<-p0,<-p1,<-p2,q0,q1] at hy;have hrl:(r.map j9).length<=1000000:=by rw[zaa];omega
  have rm: ∀{α:Type} (f:α->D) (m:List α) (z:D) (b:Nat),m.length<=1000000->b<=100->(Nat.ble m.length (m.map f).length&&aG (m.length+List.length [z]) b)=true:=λf m z b hm hb=>eF rfl (by rw[zaa]) (by omega) hb;have rm1:(Nat.ble (r.map j9).length (((r.map j9).map λx=>x.1).map bC).length&&aG ((r.map j9).length+List.length [bC g.s]) 16)=true:=eF rfl (by simp) (by omega) (by decide);have rm2:(Nat.ble (r.map j9).length (((r.map j9).map λx=>x.2).map bC).length&&aG ((r.map j9).length+List.length [bC g.dZ]) 16)=true:=eF rfl (by simp) (by omega) (by decide);exact aq (rm bZ r _ 88 (by omega) (by decide)) (aq rm1 (aq rm2 (ak (by omega) (hy _)))))
 (by
  rintro l ⟨o,U,c⟩ i ae hi ⟨hs,rfl,hU,SP⟩ ho;dsimp only at*
  (rw[<-qeP];delta y7 Zcl Gw Zck Ze ln Bj Bk OV fS Ld Zcq vN mZ Zca Zcb Zl Zm iu gF Zc8 Zc7 b9 dQ Z6D iR SN Ek Z5 mC Zco Zcp Zcn Z8 Z7 Zcm Hz XO XP Ju CN XQ xQ XR tO XS Z6k Zce Ca xW tT GM rP Zcc Zc9 Zh Zx nL nM kc kL nT iY qn Bl)
  refine mD (by rw[zaa];omega) (ho _ (λh=>by cases h) ?_);rw[zai];rfl)
 (by rintro s ae ⟨l,rfl,hs,hp⟩;refine⟨l,([],[],0),by rw[MN];rfl,⟨hs,rfl,CY.nil,by simp⟩,?_⟩;rintro x rfl;exact hp _ _ rfl rfl)
theorem qhz:LN w0 24 15 (ah (aR 24 15) qeQ):=LN.idx hX Wr (by kernel_rfl) (by kernel_rfl) (by kernel_rfl) .nil .nil .nil
 (A:=List ar×List aF) (B:=(D->Option D)×Int) (λa b i=>qhw a.1 a.2 b.1 b.2 i) (λa=>a.2.length) (λa i b=>a.2.length<=1000000/\HJ b.1 (a.2.take i))
 (λa x=> ∃f c,HJ f a.2/\x=(.exit 2,⟨98,[(3,.ref 0 0 0)],vw0 a.1 a.2 f c⟩))
 (by
  rintro⟨g,o⟩ ⟨f,c⟩ i ae h0 bJ bs ⟨hm,hO⟩ hn ho;dsimp only at*
  (rw[<-XT];delta Hz XO XP Ju CN XQ xQ XR tO XS Zcs gb re tT GM vN mZ Zca eH wR fS rP Zcr Zct b9 dQ K5 Ze Hn Gj Gk jd mC Zl Zm Z8 Z7 Zh uf qe Hq Z9t S0)
  have e1:D.nth (o.map bC) i.toNat=bC o[i.toNat]:=az _ _ _ bs;have lI:=hO.go bs;rw[e1];refine bF bJ (ak ⟨h0,bJ⟩ (ak (by simpa using bs) (aq (iO _) (ak (by omega) (hn (_,_) ⟨hm,lI⟩))))))
 (by
  rintro⟨g,o⟩ ⟨f,c⟩ i ae hi ⟨hm,hO⟩ ho;dsimp only at*
  (rw[<-XT];delta Hz XO XP Ju CN XQ xQ XR tO XS Zcs gb re tT GM vN mZ Zca eH wR fS rP Zcr Zct b9 dQ K5 Ze Hn Gj Gk jd mC Zl Zm Z8 Z7 Zh uf qe Hq Z9t S0)
  rw[zai] at hO;exact mD (by omega) (ho _ (λh=>by cases h) ⟨f,c,hO,rfl⟩))
 (by rintro s ae ⟨g,o,rfl,hm,hp⟩;refine⟨(g,o),(noD,0),rfl,⟨hm,HJ.none⟩,?_⟩;rintro x ⟨f,c,h1,rfl⟩;exact hp f c h1)
theorem qhA:LN w0 24 20 (ah (aR 24 20) qeR):=LN.idx hX Wr (by kernel_rfl) (by kernel_rfl) (by kernel_rfl) .nil (.cons (qli hX) .nil) .nil
 (A:=List ar×List aF×(D->Option D)×Int) (B:=GaB) (λa b i=>qhx a.1 a.2.1 a.2.2.1 a.2.2.2 b.1 b.2.1 b.2.2.1 b.2.2.2.1 b.2.2.2.2.1 b.2.2.2.2.2.1 b.2.2.2.2.2.2.1 b.2.2.2.2.2.2.2.1 b.2.2.2.2.2.2.2.2.1 b.2.2.2.2.2.2.2.2.2 i) (λa=>a.1.length)
 (λa i b=>(HJ a.2.2.1 a.2.1/\a.1.length<=1000000/\ ∀x∈a.1,cA x=true)/\sa (ml a.2.1 (a.1.take i)) b.2.2.1 b.2.2.2.1 b.2.2.2.2.1 b.2.2.2.2.2.1 b.2.2.2.2.2.2.1 b.2.2.2.2.2.2.2.1 b.2.2.2.2.2.2.2.2.1 b.2.2.2.2.2.2.2.2.2/\kD b.1 (ri (a.1.take i)))
 (λa x=> ∃d n na np nh nl A P H L,sa (ml a.2.1 a.1) na np nh nl A P H L/\kD d (ri a.1)/\x=(.exit 4,⟨98,[(3,.ref 0 0 0)],vwL a.1 a.2.1 a.2.2.1 a.2.2.2 d n na np nh nl A P H L⟩))
 (by
  rintro⟨g,o,f,c⟩ ⟨d,n,na,np,nh,nl,A,P,H,L⟩ i ae h0 bJ bs ⟨hc,hR,hD⟩ hn ho;dsimp only at*
  (rw[<-XU];delta b9 dQ K5 jH ZaG nP D5 EF vv za vw gb re tT GM S7 Ey mZ eH wR fS rP Zcv Zl Zm r4 Z8 Z7 Zh K9 vu nU nV nW zj Zcu nL nM kc kL nT Ze ln Bj Bk OV iY iu B6 B7 SM)
  have hB:=Eu (on:=o) hc.2.2 i.toNat (by omega);have hN:dx (g.take i.toNat)<=300000000:=by have h1:=rL g i.toNat;have h2:=GN hc.2.2;have h3:=hc.2.1;omega
  have e1:D.nth (g.map bZ) i.toNat=bZ g[i.toNat]:=az _ _ _ bs;have nD:=hc.2.2 _ (zas bs);have lu:=vb (on:=o) bs;have RX:=R8 bs;rw[e1];generalize g[i.toNat]=x at nD lu RX⊢;refine bF bJ (ak ⟨h0,bJ⟩ (ak (by simpa using bs) (aq (mL _) ⟨x,g,o,f,c,d,n,na,np,nh,nl,A,P,H,L,_,_,_,rfl,rfl,⟨hc.1,hR,hD,hB,hN,ve nD,vd nD⟩,λd' n' qf qg qh cQ A' P' H' L' g1 g2=>ak (by omega) (hn (d',n',qf,qg,qh,cQ,A',P',H',L') ⟨hc,by rw[lu];exact g1,by rw[RX];exact g2⟩)⟩))))
 (by
  rintro⟨g,o,f,c⟩ ⟨d,n,na,np,nh,nl,A,P,H,L⟩ i ae hi ⟨hc,hR,hD⟩ ho;dsimp only at*
  (rw[<-XU];delta b9 dQ K5 jH ZaG nP D5 EF vv za vw gb re tT GM S7 Ey mZ eH wR fS rP Zcv Zl Zm r4 Z8 Z7 Zh K9 vu nU nV nW zj Zcu nL nM kc kL nT Ze ln Bj Bk OV iY iu B6 B7 SM)
  rw[zai] at hR hD;exact mD (by omega) (ho _ (λh=>by cases h) ⟨d,n,na,np,nh,nl,A,P,H,L,hR,hD,rfl⟩))
 (by rintro s ae ⟨g,o,f,c,rfl,hc,hp⟩;refine⟨(g,o,f,c),(noD,0,0,0,0,0,[],[],[],[]),rfl,⟨hc,⟨rfl,rfl,rfl,rfl,rfl,rfl,rfl,rfl⟩,λz=>rfl⟩,?_⟩;rintro x ⟨d,n,na,np,nh,nl,A,P,H,L,g1,g2,rfl⟩;exact hp d n na np nh nl A P H L g1 g2)
theorem qeS:ND w0 24 qhy:=ND.mk hX Wr (by kernel_rfl) (by kernel_rfl) .nil (.cons (qnT hX) .nil) (.loop (by decide) (qlj hX).T (.loop (by decide) (qhz hX).T (.loop (by decide) (qhA hX).T .nil))) (by
 intro ps R ae hh;obtain⟨l,rfl,rfl,hs,hp⟩:=hh
 (rw[<-qof];delta jH ZaG nP D5 EF vv za vw gb re tT GM S7 Ey mZ eH wR fS rP Zcv b9 Zbk mM Hz XO XP Ju CN XQ xQ XR tO XS Zcs vN Zca Zcr Zct Z5 r4 dQ Zcy B9 Z6k Zce Zcx iR wK Zx Gw y7 Z6M Ca xW SO Zcb Bu iu gF Zc7 Zcw)
 have hl:=hs.1;have h1:=PE l;have h2:=mh l;refine⟨l,rfl,hs,λg h hg hh=> ?_⟩;have tk1:List.take h.length ((h.map λx=>x.1).map bC)=(h.map λx=>x.1).map bC:=zak (by simp);have tk2:List.take h.length ((h.map λx=>x.2).map bC)=(h.map λx=>x.2).map bC:=zak (by simp);rw[tk1,tk2];refine⟨h,rfl,rfl,by rw[hh,zaa,hg];omega,λo ho=> ?_⟩;have gK:o=c8 l:=by rw[ho,hh,hg];rfl
 exact⟨g,o,rfl,by rw[gK];omega,λf c hf=>⟨g,o,f,c,rfl,⟨hf,by rw[hg];omega,by rw[hg];exact Bg⟩,λd n na np nh nl A P H L g1 g2=>hp g o f c d n na np nh nl A P H L hg gK hf g1 g2⟩⟩)
theorem qlk:ND w0 13 GL:=ND.mk hX Wr (by kernel_rfl) (by kernel_rfl) .nil (.cons (qeS hX) .nil) .nil (by
 intro ps R ae hh;obtain⟨l,rfl,rfl,hs,hp⟩:=hh
 (rw[<-qlh];delta gb re Bo eH sS Za1 Zx gF yw)
 exact⟨l,rfl,rfl,hs,λg o f c d n na np nh nl A P H L _ ho _ _ _=>hp o ho⟩)
end
theorem XV{l t}(hc: ∀g∈l,cA g=true)(hn:(l.map (·.s)).Nodup):(XM l t).length<=t.a.length:=
 zaL (GG hc hn _) (zaL (rO _) (zi _ _))
section
variable{X:XF}
theorem qcR:LD X 28 7 (ah (aR 28 7) qlb):=LD.idx (by kernel_rfl) (by kernel_rfl) (.cons M8 .nil) (.cons XL .nil)
 (A:=List ar×List aF) (B:=OfB) (λa b i=>of7 a.1 a.2 b.1 b.2.1 b.2.2.1 b.2.2.2.1 b.2.2.2.2.1 b.2.2.2.2.2.1 b.2.2.2.2.2.2.1 b.2.2.2.2.2.2.2 i) (λa=>a.1.length)
 (λa i b=>(a.1.length<=1000000/\a.2.length<=1000000/\ ∀g∈a.1,cA g=true)/\sa (ml a.2 (a.1.take i)) b.1 b.2.1 b.2.2.1 b.2.2.2.1 b.2.2.2.2.1 b.2.2.2.2.2.1 b.2.2.2.2.2.2.1 b.2.2.2.2.2.2.2)
 (λa x=> ∃na np nh nl A P H L,sa (ml a.2 a.1) na np nh nl A P H L/\x=(.exit 0,⟨140,[(0,.sl 0 0 a.1.length),(2,.ref 1 0 0),(3,.ref 7 0 0),(4,.sl 13 0 na),(5,.sl 14 0 np)],ofR a.1 a.2 nh nl A P H L⟩))
 (by
  rintro⟨m,o⟩ ⟨na,np,nh,nl,A,P,H,L⟩ i ae h0 bJ bs ⟨hc,hR⟩ hn ho
  try dsimp only at*
  (rw[<-qeN];delta Zl Zm ZA Z8 Z7 Zh K9 EF za O9 RZ jH R4 xQ Ki gb re Kj ZbI XD R5 eH R6 Hy Hz HA HB HE Ca xW vN HF S9 Cg Nb Z5 wQ fk yr Zt ZI HG HI C6 je C7 fS rK qm B9 MS xN nf ni oQ Ze ln Bj Bk Ek sS iY iu B6 r4 B7 SM)
  have hB:=Eu (on:=o) hc.2.2 i.toNat (by omega);have hN:dx (m.take i.toNat)<=300000000:=by have h1:=rL m i.toNat;have h2:=GN hc.2.2;have h3:=hc.1;omega
  have e1:D.nth (m.map bZ) i.toNat=bZ m[i.toNat]:=az _ _ _ bs;have nD:=hc.2.2 _ (zas bs);have lu:=vb (on:=o) bs;rw[e1];refine bF bJ (ak ⟨h0,bJ⟩ (ak (by rw[zaa];exact bs) (aq (mL _) ⟨o,m[i.toNat].s,rfl,rfl,hc.2.1,λb hb=>⟨m,o,na,np,nh,nl,A,P,H,L,i,b,_,_,bs,rfl,⟨hR,hB,hN,h0,ve nD,vd nD⟩,λqf qg qh cQ A' P' H' L' g1=>ak (by omega) (hn (qf,qg,qh,cQ,A',P',H',L') ⟨hc,by rw[lu];unfold tlG;rw[<-hb];exact g1⟩)⟩⟩))))
 (by
  rintro⟨m,o⟩ ⟨na,np,nh,nl,A,P,H,L⟩ i ae hi ⟨hc,hR⟩ ho
  try dsimp only at*
  (rw[<-qeN];delta Zl Zm ZA Z8 Z7 Zh K9 EF za O9 RZ jH R4 xQ Ki gb re Kj ZbI XD R5 eH R6 Hy Hz HA HB HE Ca xW vN HF S9 Cg Nb Z5 wQ fk yr Zt ZI HG HI C6 je C7 fS rK qm B9 MS xN nf ni oQ Ze ln Bj Bk Ek sS iY iu B6 r4 B7 SM)
  rw[zai] at hR;exact mD (by omega) (ho _ (λh=>by cases h) ⟨na,np,nh,nl,A,P,H,L,hR,rfl⟩))
 (by rintro s ae ⟨m,o,rfl,hc,hp⟩;refine⟨(m,o),(0,0,0,0,[],[],[],[]),rfl,⟨hc,⟨rfl,rfl,rfl,rfl,rfl,rfl,rfl,rfl⟩⟩,?_⟩;rintro x ⟨na,np,nh,nl,A,P,H,L,g1,rfl⟩;exact hp na np nh nl A P H L g1)
theorem qhB:FD X 28 qeO:=FD.mk (by kernel_rfl) (.cons Ws (.cons qez (.cons qeA (.cons qk7 (.cons qhv (.cons qhj (.cons Xc .nil))))))) (.cons qcR .nil) (by
 intro ps R ae hh;obtain⟨l,rfl,rfl,hs,hp⟩:=hh
 (rw[<-qoe];delta gb eH Zc3 fo C1 dW dH SF R7 tX oT Zbk fS mM Zbm gF eu Ld j8 im gR B9 xQ tO O9 RZ Hz Ki re Kj XD R5 Hy HA HB HE Ca xW vN HF S9 Cg Z5 K7 C6 je C7 rK qm Zc2 iR wK MR Z6O Zc6 Zx yw)
 have hl:=hs.1.1;have h1:=PE l;have h2:=mh l;have nD: ∀g∈aJ l,cA g=true:=Bg;have oO:=Gr l;have C8:dx (aJ l)<=1000:=zaL (MT l) hs.2;refine⟨l,rfl,rfl,hs.1,λm hm=> ?_⟩;have tm:List.take m.length (m.map bZ)=m.map bZ:=zak (by simp);rw[tm];refine⟨m,rfl,rfl,by rw[hm];omega,λh hh=> ?_⟩;have th:List.take h.length (h.map cr)=h.map cr:=zak (by simp);rw[th];refine⟨h,rfl,rfl,by rw[hh,zaa,hm];omega,λo ho=> ?_⟩;have gK:o=c8 l:=by rw[ho,hh,hm];rfl
 refine⟨m,o,rfl,⟨by rw[hm];omega,by rw[gK];omega,by rw[hm];exact nD⟩,λna np nh nl A P H L hR=> ?_⟩;have hB:=Eu (on:=o) (l:=m) (by rw[hm];exact nD) m.length (zal _);rw[zai,hm] at hB;have k7:=hB.mono C8;rw[hm] at hR;obtain⟨t,ht⟩: ∃t,t=ml o (aJ l):=⟨_,rfl⟩
 rw[<-ht] at hR k7;obtain⟨rfl,rfl,rfl,rfl,rfl,rfl,rfl,rfl⟩:=hR;have ta:List.take t.a.length (t.a.map aL)=t.a.map aL:=zak (by simp);have tp:List.take t.p.length (t.p.map bn)=t.p.map bn:=zak (by simp);have thh:List.take t.h.length (t.h.map cV)=t.h.map cV:=zak (by simp);have tg:List.take t.g.length (t.g.map cV)=t.g.map cV:=zak (by simp);have tn:List.take o.length (o.map bC)=o.map bC:=zak (by simp);have tk: ∀{α:Type} (f:α->D) (l:List α),List.take l.length (l.map f)=l.map f:=λf l=>zak (by simp);have b1:=k7.1;have b2:=k7.2.1;have b3:=k7.2.2.1;have b4:=k7.2.2.2;rw[ta,tp,thh,tg,tn,tm];refine⟨t.a,t.p,rfl,rfl,⟨by omega,b1.symm⟩,λq hq=> ?_⟩;rw[tk bn q];have hql:q.length<=t.a.length:=by rw[hq];exact zaL (rO _) (zi _ _)
 refine⟨m,q,rfl,rfl,⟨by omega,by rw[hm];omega,by rw[hm];exact nD,by rw[hm];exact oO⟩,λp TX=>⟨t.h,t.g,rfl,rfl,⟨by omega,by omega⟩,λv hv=> ?_⟩⟩;rw[tk bn p,tk aL v];have hpp:p=XM (aJ l) t:=by rw[TX,hq,hm];rfl
 have Qm:p.length<=t.a.length:=by rw[hpp];exact XV nD oO
 have hvl:v.length<=t.h.length:=by rw[hv];exact Pt _ _
 refine⟨p,v,rfl,rfl,⟨by omega,by omega⟩,?_⟩;rw[tk cv];exact hp o t p (dy (fP p) v) gK ht hpp (by rw[hpp,hv];rfl))
end
structure bG(i:Int)(l:List ar):Prop where
 GO: ∀g∈l,cA g=true
 nd:(l.map (·.s)).Nodup
 sm: ∀g∈l,(1<=g.s.2/\g.s.2<=3)/\(g.s.1<=i/\g.n<=i)/\g.ops.length<=1/\ ∀o∈g.ops,o.text.length<=2/\o.elems.length<=3
 len:(l.length:Int)<=i
structure pX(i:Int)(l:List ar)(K:List (List Int)):Prop where
 len:K.length=3
 vec: ∀v∈K,cT v=true/\ ∀r,eV v r<=i
 own: ∀g∈l,g.n<=eV (K.getD (g.s.2-1).toNat []) g.s.2
 top: ∀v∈K,∀r,1<=r->r<=3->eV v r<=eV (K.getD (r-1).toNat []) r
structure jV(i:Int)(K:List (List Int))(r:Int)(v:List Int):Prop where
 vec:cT v=true/\ ∀q,eV v q<=i
 own:eV v r=eV (K.getD (r-1).toNat []) r
 top: ∀q,1<=q->q<=3->eV v q<=eV (K.getD (q-1).toNat []) q
def aP(l:List ar) v:=l.filter λg=>decide (g.n<=eV v g.s.2)
theorem BD{v}(h:cT v=true) r:0<=eV v r:=by
 unfold cT at h;rw[zah] at h;unfold eV;split
 ·exact zbF _
 rw[zab];cases hk:v[(r-1).toNat]? with
 |none=>exact zbF _
 |some x=>exact h.1 x (zaA hk)
theorem pO{v}(h:cT v=true):v.length<=16:=by unfold cT at h;rw[zah] at h;exact h.2.1
theorem EH{v}(h1: ∀n∈v,0<=n)(h2:v.length<=16):cT (bx v)=true:=by unfold cT;rw[zah];refine⟨λn hn=>h1 n (zbm hn),?_,by rw[Jf]⟩;rw[tH];have:=tG v v.length;omega
theorem EI v r:eV (bx v) r=eV v r:=by
 by_cases h:1<=r
 ·rw[py _ h,py _ h,Mj]
 unfold eV;rw[zap (by omega),zap (by omega)]
theorem qcS{n f r}(h:1<=r):eV (qY n f) r=if(r-1).toNat<n then f (r-1).toNat else 0:=by rw[py _ h,AL]
theorem BE{n f}(h: ∀i,0<=f i): ∀x∈qY n f,0<=x:=by intro x hx;unfold qY at hx;obtain⟨i,_,rfl⟩:=zaq.1 hx;exact h i
theorem qcT{v r n}(h1:1<=r) q (hq:1<=q):eV (bx (il v r n)) q=if q=r then n else eV v q:=by
 rw[EI];unfold il;rw[qcS hq];have e:(((q-1).toNat:Nat):Int)+1=q:=by omega
 simp only[e];split
 ·rfl
 rename_i h;rw[zan (by omega),py _ hq,rF (by omega)]
theorem PF{v q}(h:q<1):eV v q=0:=by unfold eV;rw[zap (by omega)]
theorem XW{v r n}(hv:cT v=true)(h1:1<=r)(h2:r<=16)(hn:0<=n):cT (bx (il v r n))=true:=by
 refine EH (BE λi=> ?_) ?_
 ·split
  ·exact hn
  exact BD hv _
 unfold il;rw[Jb];have:=pO hv;omega
theorem BF v w q (hq:1<=q):eV (nJ v w) q=max (eV v q) (eV w q):=by unfold nJ;rw[EI,py _ hq,U3,<-py _ hq,<-py _ hq]
theorem EJ{v w}(hv:cT v=true)(hw:cT w=true):cT (nJ v w)=true:=by
 refine EH (BE λi=> ?_) ?_
 ·have:=BD hv ((i:Int)+1);omega
 unfold qaV;rw[Jb];have:=pO hv;have:=pO hw;omega
theorem jV.start{i l K}(h:pX i l K){r}(h1:1<=r)(h2:r<=3):jV i K r (K.getD (r-1).toNat []):=by
 have hm:K.getD (r-1).toNat []∈K:=by rw[zab,zad (by rw[h.len];omega)];exact zas _
 exact⟨h.vec _ hm,rfl,λq h3 h4=>h.top _ hm q h3 h4⟩
theorem jV.merge{i l K}(h:pX i l K){r}(h1:1<=r)(h2:r<=3){v w}(hv:jV i K r v)(hw:w∈K):jV i K r (nJ v w):=by
 have hww:=h.vec _ hw;refine⟨⟨EJ hv.vec.1 hww.1,λq=> ?_⟩,?_,λq h3 h4=> ?_⟩
 ·by_cases hq:1<=q
  ·rw[BF _ _ _ hq];have:=hv.vec.2 q;have:=hww.2 q;omega
  have:=hww.2 q;rw[PF (by omega)] at this⊢;exact this
 ·rw[BF _ _ _ h1,<-hv.own];have:=h.top _ hw r h1 h2;rw[<-hv.own] at this;omega
 rw[BF _ _ _ h3];have:=h.top _ hw q h3 h4;have:=hv.top q h3 h4;omega
def fg(l:List ar)(v:List Int)(r:Int):aF:=(gE (aP l v)+1,r)
structure BG(l:List ar)(v:List Int)(r:Int)(g:ar):Prop where
 s:g.s=fg l v r
 n:g.n=eV v r+1
 deps:g.deps=v
 body:(∃x∈aP l v,g.dZ=x.s/\g.ops=[])\/(g.dZ=(0,0)/\ ∃o m,g.ops=[o]/\kW g.s 0 o=some m/\o.text.length<=2/\o.elems.length<=3)
theorem rR{s}:JA s=true↔1<=s.1/\s.1<=1099511627776/\1<=s.2/\s.2<=16:=by show AN s.1 s.2=true↔_;unfold AN;rw[zah]
theorem rS{a b}:kA a b=true↔a.1<b.1\/a.1=b.1/\a.2<b.2:=by show tM a.1 a.2 b.1 b.2=true↔_;unfold tM;rw[zah]
theorem wS{g}(h:cA g=true):JA g.s=true/\(1<=g.n/\g.n<=1099511627776)/\cT g.deps=true/\eV g.deps g.s.2=g.n-1:=by unfold cA hdG at h;simp only[zac,zah,za1] at h;exact⟨h.1.1.1.1,h.1.1.1.2,h.1.1.2,h.1.2⟩
theorem jv{l v g}:g∈aP l v↔g∈l/\g.n<=eV v g.s.2:=by unfold aP;rw[zbT,zah]
theorem bG.gE{i l}(h:bG i l)(hi:0<=i) v:0<=gE (aP l v)/\gE (aP l v)<=i:=
 ⟨(pH _).1,Wn hi _ λg hg=>(h.sm g (jv.1 hg).1).2.1.1⟩
theorem BG.GO{i l K v}{r g}(hl:bG i l)(hi:0<=i/\i<=1000)(h1:1<=r)(h2:r<=3)(hv:jV i K r v)(h:BG l v r g):cA g=true:=by
 have hm:=hl.gE hi.1 v;have ha:=BD hv.vec.1 r;have hb:=hv.vec.2 r;have hs:g.s.1=gE (aP l v)+1/\g.s.2=r:=by rw[h.s];exact⟨rfl,rfl⟩
 unfold cA hdG;have hh:(JA g.s&&decide (1<=g.n/\g.n<=1099511627776)&&cT g.deps&&(eV g.deps g.s.2==g.n-1))=true:=by rw[h.deps,h.n,hv.vec.1,hs.2];simp only[zac,zah,za1,zcA];refine⟨⟨rR.2 (by omega),by omega⟩,by omega⟩
 rw[hh,zaW];rcases h.body with⟨x,hx,hu,ho⟩| ⟨hu,o,m,ho,H6,_⟩
 ·have CK:=jv.1 hx;have hr:=(wS (hl.GO x CK.1)).1;have hr2:=rR.1 hr;have hx3:=(pH (aP l v)).2 x hx;rw[hu,zap (λe=>by have:=congrArg Prod.fst e;simp only at this;omega),hr,ho];simp only[zaW,zav,zbA,zb6];exact rS.2 (.inl (by omega))
 rw[hu,zan (by simp),ho];simp only[zao,zav,jt,H6,zb6,zah];omega
theorem BG.new{i l K v}{r g}(_:bG i l)(hK:pX i l K)(hv:jV i K r v)(_:BG l v r g): ∀x∈l,x.s.2=r->x∈aP l v:=by intro x hx hr;refine jv.2 ⟨hx,?_⟩;have:=hK.own x hx;rw[hr] at this⊢;rw[hv.own];exact this
theorem BG.qgm{i l K v}{r g}(hl:bG i l)(hK:pX i l K)(hi:0<=i/\i<=1000)(h1:1<=r)(h2:r<=3)(hv:jV i K r v)(h:BG l v r g):
  bG (i+1) (l++[g])/\pX (i+1) (l++[g]) (K.set (r-1).toNat (bx (il v r (eV v r+1)))):=by
 have hm:=hl.gE hi.1 v;have ha:=BD hv.vec.1 r;have hb:=hv.vec.2 r;have hs:g.s.1=gE (aP l v)+1/\g.s.2=r:=by rw[h.s];exact⟨rfl,rfl⟩
 have hgn:=h.n;have hc:=h.GO hl hi h1 h2 hv;have hw:cT (bx (il v r (eV v r+1)))=true:=XW hv.vec.1 h1 (by omega) (by omega);have hwa:=λq hq=>qcT (v:=v) (n:=eV v r+1) h1 q hq;have hlen:=hK.len;have qE: ∀q:Int,1<=q->q<=3->(K.set (r-1).toNat (bx (il v r (eV v r+1)))).getD (q-1).toNat []=if q=r then bx (il v r (eV v r+1)) else K.getD (q-1).toNat []:=by
  intro q h3 h4;rw[zab];split
  next e=>rw[e,zcl (by omega)];rfl
  rename_i e;rw[zbc (by omega),zab]
 refine⟨⟨?_,?_,?_,?_⟩,⟨by simp[hlen],?_,?_,?_⟩⟩
 ·intro x hx;rcases zaz.1 hx with hx |hx
  ·exact hl.GO x hx
  rw[zaJ.1 hx];exact hc
 ·rw[zaC,zaR];refine⟨hl.nd,by simp,λa ha2 b cP e=> ?_⟩;simp only[za4,zcz,zaJ] at cP;subst cP;obtain⟨x,hx,hxe⟩:=zaq.1 ha2;have hxs:x.s=g.s:=hxe.trans e;have hk:=h.new hl hK hv x hx (by rw[hxs];exact hs.2);have:=(pH (aP l v)).2 x hk;rw[hxs] at this;omega
 ·intro x hx;rcases zaz.1 hx with hx |hx
  ·obtain⟨a,b,c⟩:=hl.sm x hx;exact⟨a,by omega,c⟩
  rw[zaJ.1 hx];refine⟨by omega,by omega,?_⟩;rcases h.body with⟨y,_,_,ho⟩| ⟨_,o,m,ho,_,h5,h6⟩
  ·rw[ho];exact⟨by simp,λo ho=>by cases ho⟩
  rw[ho];exact⟨by simp,λo' gK=>by rw[zaJ.1 gK];exact⟨h5,h6⟩⟩
 ·have:=hl.len;rw[zaj,zbM];omega
 ·intro u hu;rcases zcF hu with hu |rfl
  ·exact⟨(hK.vec u hu).1,λq=>by have:=(hK.vec u hu).2 q;omega⟩
  refine⟨hw,λq=> ?_⟩;by_cases hq:1<=q
  ·rw[hwa q hq];have:=hv.vec.2 q;split<;>omega
  rw[PF (by omega)];omega
 ·intro x hx;rcases zaz.1 hx with hx |hx
  ·obtain⟨a,_,_⟩:=hl.sm x hx;rw[qE _ a.1 a.2];have h3:=hK.own x hx;split
   next e=>rw[e,hwa r h1,zap rfl];rw[e,<-hv.own] at h3;omega
   exact h3
  rw[zaJ.1 hx,hs.2,qE r h1 h2,zap rfl,hwa r h1,zap rfl];omega
 intro u hu q h3 h4;rw[qE q h3 h4];rcases zcF hu with hu |rfl
 ·have h5:=hK.top u hu q h3 h4;split
  next e=>rw[hwa q h3,zap e];rw[e] at h5⊢;rw[<-hv.own] at h5;omega
  exact h5
 split
 ·exact zbF _
 rename_i e;rw[hwa q h3,zan e];exact hv.top q h3 h4
theorem XX:bG 0 []/\pX 0 [] [[],[],[]]:=by
 refine⟨⟨(λ_ h=>by cases h),by simp,(λ_ h=>by cases h),by simp⟩,⟨rfl,?_,(λ_ h=>by cases h),?_⟩⟩
 ·intro v hv;have:v=[]:=by simpa using hv
  subst this;refine⟨by decide,λr=> ?_⟩;unfold eV;split<;>simp
 intro v hv r h1 h2;have:v=[]:=by simpa using hv
 subst this;have e:eV [] r=0:=by unfold eV;split<;>simp
 have h3:([[],[],[]]:List (List Int)).getD (r-1).toNat []=[]:=by
  have key: ∀n:Nat,([[],[],[]]:List (List Int)).getD n []=[]:=λn=>by
   match n with
   |0=>rfl
   |1=>rfl
   |2=>rfl
   |_+3=>rfl
  exact key _
 rw[h3];exact zbF _
theorem op1{i l}(hl:bG i l){g}(hg:g∈l){o}(ho:o∈g.ops): ∃m,kW g.s 0 o=some m:=by
 have h1:=(hl.sm g hg).2.2.1;have h2:=Gy (hl.GO g hg);cases C8:g.ops with
 |nil=>rw[C8] at ho;cases ho
 |cons a r=>
  rw[C8] at h1 ho h2;have hr:r=[]:=by simpa using h1
  subst hr;rw[zaJ.1 ho];unfold jt at h2;split at h2
  ·exact⟨_,by assumption⟩
  cases h2
theorem XY{s t k}(ht:JA t=true)(bK:t.1<s.1)(h0:0<=k)(hk:k<=400000):de s 0 (t.1,t.2,k)=true:=by have:=rR.1 ht;unfold de;rw[zac,za8];refine⟨?_,.inl (rS.2 (.inl bK))⟩;show bf t.1 t.2 k=true;unfold bf;rw[zah];omega
def iU(l:List ar) x:= ∃g∈l,JB x=g.s/\0<=x.2.2/\x.2.2<=1000
theorem iU.ahead{i l}(hl:bG i l){v r x}(h:iU (aP l v) x):de (fg l v r) 0 x=true:=by obtain⟨g,hg,hs,h0,h1⟩:=h;have hg2:=jv.1 hg;have:=(pH (aP l v)).2 g hg;have hrg:=(wS (hl.GO g hg2.1)).1;have Co:x.1=g.s.1:=congrArg Prod.fst hs;have CK:x.2.1=g.s.2:=congrArg Prod.snd hs;have hh:=XY (s:=fg l v r) hrg (show g.s.1<gE (aP l v)+1 by omega) h0 (by omega);obtain⟨a,b,c⟩:=x;simp only at Co CK;rw[Co,CK];exact hh
theorem iU.par{i l}(hl:bG i l){v r x}(h:x=aA\/iU (aP l v) x):mJ (fg l v r) 0 x=true:=by
 unfold mJ;rcases h with rfl |h
 ·simp
 rw[h.ahead hl,Bool.or_true]
theorem XZ{i l}(hl:bG i l){g}(hg:g∈l){o}(ho:o∈g.ops)(hk:o.kind=0):iU l o.node:=by obtain⟨m,hm⟩:=op1 hl hg ho;obtain⟨h1,_⟩:=J9 hm hk;exact⟨g,hg,by rw[h1],by rw[h1];exact zbF _,by rw[h1];show(0:Int)<=1000;decide⟩
theorem PG{s k n o}(h:kW s k o=some n)(h0:o.kind=3):o.elem=(s.1,s.2,k):=by
 unfold kW at h;rw[zan (by omega: ¬o.kind=0),zan (by omega: ¬o.kind=1),zan (by omega: ¬o.kind=2),zap h0] at h;split at h
 ·cases h
 split at h
 next hh=>exact hh.2.2.1
 cases h
theorem X0{i l}(hl:bG i l){g}(hg:g∈l){o}(ho:o∈g.ops)(hk:o.kind=3){k}(h0:0<=k)(h1:k<=1000):iU l (o.elem.1,o.elem.2.1,o.elem.2.2+k):=by obtain⟨m,hm⟩:=op1 hl hg ho;have h2:=PG hm hk;rw[h2];exact⟨g,hg,rfl,by show 0<=0+k;omega,by show 0+k<=1000;omega⟩
def Kk(s:aF)(p:ao)(nm:List UInt8)(d:Bool):bj:=⟨0,(s.1,s.2,0),p,nm,d,[],aA,aA,[],[]⟩
def X1(x p:ao)(nm:List UInt8):bj:=⟨1,x,p,nm,false,[],aA,aA,[],[]⟩
def X2(x:ao)(d:List aF):bj:=⟨2,x,aA,[],false,d,aA,aA,[],[]⟩
def qcU(s:aF)(x a:ao)(t:List UInt8):bj:=⟨3,x,aA,[],false,[],a,(s.1,s.2,0),t,[]⟩
def qcV(x:ao)(e:List ao):bj:=⟨4,x,aA,[],false,[],aA,aA,[],e⟩
section
variable{i:Int}{l:List ar}(hl:bG i l){v:List Int}{r:Int}
include hl
theorem PH{p}(hp:p=aA\/iU (aP l v) p){nm}(hn:bX nm=true) d:kW (fg l v r) 0 (Kk (fg l v r) p nm d)=some 1:=by have h1:=iU.par hl (r:=r) hp;simp[kW,Kk,fM,nc,h1,hn]
theorem qcW{x p}(hx:iU (aP l v) x)(hp:p=aA\/iU (aP l v) p){nm}(hn:bX nm=true):kW (fg l v r) 0 (X1 x p nm)=some 0:=by have h1:=iU.par hl (r:=r) hp;have h2:=hx.ahead hl (r:=r);simp[kW,X1,fM,nc,h1,h2,hn]
theorem qcX{x}(hx:iU (aP l v) x){d}(hd: ∀s∈d,∃g∈aP l v,g.s=s)(hs:d.Pairwise λa b=>kA a b=true)(hln:d.length<=200):kW (fg l v r) 0 (X2 x d)=some 0:=by
 have h2:=hx.ahead hl (r:=r);have h3:oC (fg l v r) d=true:=by
  unfold oC;rw[zac,zah];refine⟨wB λk hk=> ?_,hln⟩;unfold mK;have hg:d.getD k (0,0)=d[k]:=by rw[zab,zad hk];rfl
  obtain⟨g,hgm,hgs⟩:=hd _ (zas hk);have hg2:=jv.1 hgm;have h4:=(pH (aP l v)).2 g hgm;rw[hg,<-hgs];rw[zac,zac,za8];refine⟨⟨(wS (hl.GO g hg2.1)).1,?_⟩,?_⟩
  ·rw[zbv,<-za6,rS];show ¬(gE (aP l v)+1<g.s.1\/gE (aP l v)+1=g.s.1/\r<g.s.2);omega
  by_cases h0:k=0
  ·exact .inl (by simp[h0])
  refine .inr ?_;have KQ:d.getD (k-1) (0,0)=d[k-1]:=by rw[zab,zad (by omega)];rfl
  rw[KQ,hgs];exact zbb.1 hs (k-1) k (by omega) hk (by omega)
 simp[kW,X2,fM,nc,h2,h3]
theorem qcY{x a}(hx:iU (aP l v) x)(ha:a=aA\/iU (aP l v) a){t}(ht:oD t=true):kW (fg l v r) 0 (qcU (fg l v r) x a t)=some (CR t):=by have h1:=iU.par hl (r:=r) ha;have h2:=hx.ahead hl (r:=r);simp[kW,qcU,fM,nc,h1,h2,ht]
theorem qcZ{x}(hx:iU (aP l v) x){e}(he: ∀y∈e,iU (aP l v) y)(hs:e.Pairwise λa b=>fc a b=true)(h1:1<=e.length)(h3:e.length<=3):kW (fg l v r) 0 (qcV x e)=some 0:=by
 have h2:=hx.ahead hl (r:=r);have h4:u5 (fg l v r) 0 e=true:=by
  unfold u5;rw[zac,zah];refine⟨wB λk hk=> ?_,by omega⟩;unfold Eb;have hg:e.getD k aA=e[k]:=by rw[zab,zad hk];rfl
  rw[hg,zac,za8];refine⟨(he _ (zas hk)).ahead hl,?_⟩;by_cases h0:k=0
  ·exact .inl (by simp[h0])
  refine .inr ?_;have KQ:e.getD (k-1) aA=e[k-1]:=by rw[zab,zad (by omega)];rfl
  rw[KQ];exact zbb.1 hs (k-1) k (by omega) hk (by omega)
 simp[kW,qcV,fM,nc,h2,h4]
end
abbrev cb:=ao×ao×List UInt8
abbrev iV:=ao×ao×List UInt8
def rj t:=if Lib.validD t=true then KZ t else []
def Ch(r:cb)(k:Nat):ao:=(r.2.1.1,r.2.1.2.1,r.2.1.2.2+k)
def elA(r:cb):Nat->ao
 |0=>r.1
 |k+1=>Ch r k
def X3(o:List iV) x a p:=if x=aA\/(o.any λe=>e.1==x)=true then o else o++[(x,a,p)]
def PI r o (l:List (List UInt8)):=l.zipIdx.foldl (λo p=>X3 o (Ch r p.2) (elA r p.2) p.1) o
def elR o r:=PI r o (rj r.2.2)
def Kl(l:List cb):=l.foldl elR []
theorem BH{r o}{l:List (List UInt8)}{i}(h:i<l.length):PI r o (l.take (i+1))=X3 (PI r o (l.take i)) (Ch r i) (elA r i) l[i]:=by unfold PI;rw[zaf h,List.zipIdx_append,zaY];simp[zau,zcv (Nat.le_of_lt h)]
theorem BI{l:List cb}{i}(h:i<l.length):Kl (l.take (i+1))=elR (Kl (l.take i)) l[i]:=by unfold Kl;rw[zaf h,zaY];rfl
theorem qc0 o x a p:(X3 o x a p).length<=o.length+1:=by
 unfold X3;split
 ·omega
 simp
theorem GP{r o}{l:List (List UInt8)}: ∀i,i<=l.length->(PI r o (l.take i)).length<=o.length+i
 |0,_=>by simp[PI]
 |i+1,hi=>by rw[BH (by omega)];have:=qc0 (PI r o (l.take i)) (Ch r i) (elA r i) (l[i]'(by omega));have:=GP (r:=r) (o:=o) (l:=l) i (by omega);omega
def Km(R:List cb)(o:List iV):=(o.map (·.1)).Nodup/\ ∀e∈o,e.1≠aA/\ ∃r∈R,∃k,k<(rj r.2.2).length/\e.1=Ch r k/\e.2.1=elA r k
theorem Km.step{R o}(h:Km R o){r}(hr:r∈R){k}(hk:k<(rj r.2.2).length) p:Km R (X3 o (Ch r k) (elA r k) p):=by
 unfold X3;split
 ·exact h
 rename_i hn;refine⟨?_,λe he=> ?_⟩
 ·rw[zaC,zaR];refine⟨h.1,by simp,λa ha b hb e=> ?_⟩;rw[show b=Ch r k by simpa using hb] at e;obtain⟨y,hy,hye⟩:=zaq.1 ha;exact hn (.inr (za3.2 ⟨y,hy,by simpa using hye.trans e⟩))
 rcases zaz.1 he with he |he
 ·exact h.2 e he
 rw[zaJ.1 he];exact⟨λe=>hn (.inl e),r,hr,k,hk,rfl,rfl⟩
theorem Km.run{R o}(h:Km R o){r}(hr:r∈R): ∀i,i<=(rj r.2.2).length->Km R (PI r o ((rj r.2.2).take i))
 |0,_=>by simpa [PI] using h
 |i+1,hi=>by rw[BH (by omega)];exact(Km.run h hr i (by omega)).step hr (by omega) _
theorem Nf{l}: ∀i,i<=l.length->Km l (Kl (l.take i))
 |0,_=>⟨by simp[Kl],λe he=>by simp[Kl] at he⟩
 |i+1,hi=>by rw[BI (by omega)];have:=(Nf (l:=l) i (by omega)).run (zas (show i<l.length by omega)) (rj (l[i]'(by omega)).2.2).length (zal _);rwa [zai] at this
def Le(l:List cb):=(l.map λr=>(rj r.2.2).length).sum
theorem EK{l:List cb}{i}(h:i<l.length):Le (l.take (i+1))=Le (l.take i)+(rj l[i].2.2).length:=by unfold Le;rw[zaf h,zaC,List.sum_append];simp only[za4,zcz,List.sum_cons,List.sum_nil,zb1]
theorem X4 l i:Le (l.take i)<=Le l:=by
 have:Le l=Le (l.take i)+Le (l.drop i):=by unfold Le;rw[<-List.sum_append,<-zaC,zbJ]
 omega
theorem zk{l:List cb}: ∀i,i<=l.length->(Kl (l.take i)).length<=Le (l.take i)
 |0,_=>by simp[Kl]
 |i+1,hi=>by rw[BI (by omega),EK (by omega)];have h1:=zk (l:=l) i (by omega);have h2:=GP (r:=l[i]'(by omega)) (o:=Kl (l.take i)) (l:=rj (l[i]'(by omega)).2.2) _ (zal _);rw[zai] at h2;unfold elR;omega
theorem BJ{α β:Type}(f:α->β){l:List α}(h:(l.map f).Nodup):l.Nodup:=List.Pairwise.of_map f (λ_ _ h e=>h (congrArg f e)) h
def gtE(a b:iV):=fc b.1 a.1
def Kn(all:List iV) x:=bT gtE (all.filter λe=>e.2.1==x)
theorem vA{all x e}:e∈Kn all x↔e∈all/\e.2.1=x:=by unfold Kn;rw[(bR _).mem_iff,zbT,za1]
structure Ng(all o w:List iV):Prop where
 nd:((o++w).map (·.1)).Nodup
 sub: ∀e∈o++w,e∈all/\(e.2.1=aA\/ ∃y∈o,y.1=e.2.1)
theorem Ng.len{all o w}(h:Ng all o w):o.length+w.length<=all.length:=by have h1:(o++w).Nodup:=BJ _ h.nd;have:=h1.length_le_of_subset (l₂:=all) λe he=>(h.sub e he).1;rwa [zaj] at this
theorem Ng.step{all o w x}(ha:(all.map (·.1)).Nodup)(hr: ∀e∈all,e.1≠aA)(h:Ng all o (x::w)):Ng all (o++[x]) (Kn all x.1++w):=by
 have hx:=h.sub x (zba _ (.head _));have oO:=h.nd;have e1:o++x::w=o++[x]++w:=by simp
 rw[e1] at oO;have iy: ∀e∈o++[x]++w,e∈all/\(e.2.1=aA\/ ∃y∈o,y.1=e.2.1):=λe he=>h.sub e (by rwa [e1]);have hxo: ∀y∈o,y.1≠x.1:=by intro y hy e;rw[zaC,zaC,zaR] at oO;have:=(zaR.1 oO.1).2.2 y.1 (zaU hy) x.1 (by simp);exact this e
 have fV: ∀e∈Kn all x.1,e∉o++[x]++w:=by
  intro e he bs;obtain⟨_,h2⟩:=vA.1 he;rcases(iy e bs).2 with h3 | ⟨y,hy,h3⟩
  ·exact hr x hx.1 (by rw[<-h2,h3])
  exact hxo y hy (by rw[h3,h2])
 have hb:(Kn all x.1).Nodup:=by unfold Kn;exact(bR _).nodup_iff.2 (zcd.nodup (BJ _ ha))
 have key: ∀L:List iV,L.Nodup->(∀e∈L,e∈all)->(L.map (·.1)).Nodup:=by
  intro L
  induction L with
  |nil=>exact λ_ _=>by simp
  |cons a r ih=>intro h1 h2;rw[za9] at h1;rw[za4,za9];refine⟨λhm=> ?_,ih h1.2 λe he=>h2 e (.tail _ he)⟩;obtain⟨y,hy,e⟩:=zaq.1 hm;have:=u7 ha y (h2 y (.tail _ hy)) a (h2 a (.head _)) e;exact h1.1 (this▸hy)
 refine⟨key _ ?_ ?_,?_⟩
 ·have hold:(o++[x]++w).Nodup:=BJ _ oO;rw[zaR] at hold⊢;refine⟨hold.1,?_,λa ha2 b cP e=> ?_⟩
  ·rw[zaR];refine⟨hb,hold.2.1,λa ha2 b cP e=> ?_⟩;subst e;exact fV a ha2 (zba _ cP)
  subst e;rcases zaz.1 cP with cP |cP
  ·exact fV a cP (zbg _ ha2)
  exact hold.2.2 a ha2 a cP rfl
 ·intro e he;rcases zaz.1 he with he |he
  ·exact(iy e (zbg _ he)).1
  rcases zaz.1 he with he |he
  ·exact(vA.1 he).1
  exact(iy e (zba _ he)).1
 intro e he;have hold: ∀e,e∈o++[x]++w->e∈all/\(e.2.1=aA\/ ∃y∈o++[x],y.1=e.2.1):=by
  intro e he;obtain⟨h1,h2⟩:=iy e he;refine⟨h1,?_⟩;rcases h2 with h2 | ⟨y,hy,h2⟩
  ·exact .inl h2
  exact .inr ⟨y,zbg _ hy,h2⟩
 rcases zaz.1 he with he |he
 ·exact hold e (zbg _ he)
 rcases zaz.1 he with he |he
 ·obtain⟨h1,h2⟩:=vA.1 he;exact⟨h1,.inr ⟨x,zba _ (.head _),h2.symm⟩⟩
 exact hold e (zba _ he)
theorem Ng.start{all}(ha:(all.map (·.1)).Nodup):Ng all [] (Kn all aA):=by
 refine⟨?_,λe he=> ?_⟩
 ·rw[zbq];unfold Kn;exact((bR _).map _).nodup_iff.2 (zdc ((zcd).map _) ha)
 rw[zbq] at he;obtain⟨h1,h2⟩:=vA.1 he;exact⟨h1,.inl h2⟩
theorem bG.known{i l}(h:bG i l) v:bG i (aP l v):=
 ⟨λg hg=>h.GO g (jv.1 hg).1,(zcd.map _).nodup h.nd,λg hg=>h.sm g (jv.1 hg).1,by have:=zaM (λg:ar=>decide (g.n<=eV v g.s.2)) l;have:=h.len;unfold aP;omega⟩
theorem bG.mono{i l}(h:bG i l):bG (i+1) l:=⟨h.GO,h.nd,λg hg=>by have:=h.sm g hg;grind,by have:=h.len;omega⟩
theorem pX.mono{i l K}(h:pX i l K):pX (i+1) l K:=⟨h.len,λv hv=>⟨(h.vec v hv).1,λr=>by have:=(h.vec v hv).2 r;omega⟩,h.own,h.top⟩
theorem bG.dx{i l}(h:bG i l):Pi.dx l<=l.length:=by
 have key: ∀m:List ar,(∀g∈m,g.ops.length<=1)->Pi.dx m<=m.length:=λm=>by
  induction m with
  |nil=>simp[mn]
  |cons g r ih=>grind [ju]
 exact key l λg hg=>(h.sm g hg).2.2.1
def GQ(x:ao)(o:bj):List cb:=if o.kind=3/\o.node=x then [(o.after,o.elem,o.text)] else []
def vB x (l:List bj):=l.flatMap (GQ x)
def fN(l:List ar) x:=l.flatMap λg=>vB x g.ops
theorem X5 x o:(GQ x o).length<=1:=by unfold GQ;split<;>simp
theorem BK x: ∀l,(vB x l).length<=l.length
 | []=>zal _
 |o::l=>by have h1:=X5 x o;have h2:=BK x l;grind [vB]
theorem wT x: ∀l,(fN l x).length<=dx l
 | []=>zal _
 |g::l=>by have h1:=BK x g.ops;have h2:=wT x l;grind [fN,ju]
theorem Ko{l x r}(h:r∈fN l x): ∃g∈l,∃o∈g.ops,o.kind=3/\r=(o.after,o.elem,o.text):=by obtain⟨g,hg,hr⟩:=zcP.1 h;obtain⟨o,ho,hr⟩:=zcP.1 hr;grind [GQ]
def Nh l x:=bT fc ((Kl (fN l x)).map (·.1))
theorem BL t:(rj t).length<=t.length:=by grind [rj,Ge]
theorem Kp{i l}(hl:bG i l){x y}(h:y∈Nh l x):iU l y:=by obtain⟨e,he,rfl⟩:=zaq.1 ((bR _).mem_iff.1 h);have:=(Nf (l:=fN l x) _ (zal _)).2;rw[zai] at this;obtain⟨_,r,hr,k,hk,h1,_⟩:=this e he;obtain⟨g,hg,o,ho,h3,rfl⟩:=Ko hr;have hp:=BL o.text;have ht:=((hl.sm g hg).2.2.2 o ho).1;rw[h1];exact X0 hl hg ho h3 (Int.natCast_nonneg k) (by grind)
theorem qc1{l}(h:l.Nodup):(bT fc l).Pairwise λa b=>fc a b=true:=by refine((uY iq l).and ((bR l).nodup_iff.2 h)).imp λ{a b} QX=> ?_;rw[<-zcJ];exact λe=>QX.2 (iq.rU _ _ e QX.1)
theorem R9 l x:(Nh l x).Pairwise λa b=>fc a b=true:=by have:=(Nf (l:=fN l x) _ (zal _)).1;rw[zai] at this;exact qc1 this
def Ta(g:List aM) x o d:=if d.1≠x\/d∈g\/d.2∈o then o else cq kA o d.2
def rZ(h g:List aM) x:=h.foldl (Ta g x) []
theorem GR{h g:List aM}{x i}(hi:i<h.length):rZ (h.take (i+1)) g x=Ta g x (rZ (h.take i) g x) h[i]:=by grind [rZ,List.take_succ_eq_append_getElem]
structure OfR(h:List aM)(o:List aF):Prop where
 sub: ∀s∈o,∃d∈h,d.2=s
 qll:o.Pairwise λa b=>kA a b=true
theorem Sb{o}(h:o.Pairwise λa b=>kA a b=true){s}(hs:s∉o):(cq kA o s).Pairwise λa b=>kA a b=true:=by
 have hn:(o++[s]).Nodup:=by
  rw[zaR];refine⟨h.imp λ{a b} QX e=> ?_,by simp,λa ha b hb e=> ?_⟩
  ·rw[e,mg.IV] at QX;cases QX
  grind
 refine((uX mg s (h.imp λ{a b} QX=>mg.asymm QX)).and ((dI o s).nodup_iff.2 hn)).imp λ{a b} QX=> ?_;rw[<-zcJ];exact λe=>QX.2 (mg.rU _ _ e QX.1)
theorem OfR.step{h o}(ho:OfR h o) g x {d}(hd:d∈h):OfR h (Ta g x o d):=by
 unfold Ta;split
 ·exact ho
 rename_i hc;refine⟨λs hs=> ?_,Sb ho.qll λhm=>hc (.inr (.inr hm))⟩;rcases zaz.1 ((dI o d.2).mem_iff.1 hs) with h1 |h1
 ·exact ho.sub s h1
 grind
theorem qeT{h g x}: ∀i,i<=h.length->OfR h (rZ (h.take i) g x)
 |0,_=>⟨λs hs=>by simp[rZ] at hs,by simp[rZ]⟩
 |i+1,hi=>by rw[GR (by omega)];exact(qeT i (by omega)).step g x (zas _)
theorem qc2 g x o d:(Ta g x o d).length<=o.length+1:=by grind [Ta,mj]
theorem GS{h g:List aM}{x}: ∀i,i<=h.length->(rZ (h.take i) g x).length<=i
 |0,_=>by simp[rZ]
 |i+1,hi=>by rw[GR (by omega)];have:=qc2 g x (rZ (h.take i) g x) (h[i]'(by omega));have:=GS (h:=h) (g:=g) (x:=x) i (by omega);omega
theorem X6{on}{l:List ar}: ∀i,i<=l.length-> ∀d∈(ml on (l.take i)).h,∃g∈l,g.s=d.2
 |0,_,d,hd=>by simp[ml,tl0] at hd
 |i+1,hi,d,hd=>by
  rw[vb (by omega)] at hd;have key: ∀(b:Bool) (s:aF) (m:List bj) (t:Tl),d∈(JW b s m t).h->d∈t.h\/d.2=s:=by
   intro b s m;have: ∀(m:List (bj×Nat)) (t:Tl),d∈(m.foldl (λt p=>WE b s t p.1 p.2) t).h->d∈t.h\/d.2=s:=by
    intro m
    induction m with
    |nil=>grind
    |cons p m ih=>grind [WE]
   exact λt h=>this _ t h
  rcases key _ _ _ _ hd with h |h
  ·exact X6 i (by omega) d h
  grind
theorem qc3{i l}(hl:bG i l)(hi:i<=100){on g x}:(∀s∈rZ (ml on l).h g x,∃y∈l,y.s=s)/\(rZ (ml on l).h g x).Pairwise (λa b=>kA a b=true)/\(rZ (ml on l).h g x).length<=200:=by
 have hr:=qeT (h:=(ml on l).h) (g:=g) (x:=x) _ (zal _);have hn:=GS (h:=(ml on l).h) (g:=g) (x:=x) _ (zal _);rw[zai] at hr hn;refine⟨λs hs=> ?_,hr.qll,?_⟩
 ·obtain⟨d,hd,rfl⟩:=hr.sub s hs;exact X6 (on:=on) (l:=l) l.length (zal _) d (by rw[zai];exact hd)
 have hb:=(Eu (on:=on) hl.GO l.length (zal _)).2.2.1;rw[zai] at hb;have:=hl.dx;have:=hl.len;omega
def tZ b (l:List bj):=(l.filter λo=>o.kind==0&&(o.dir==b)).map (·.node)
def vC b (l:List ar):=l.flatMap λg=>tZ b g.ops
theorem PJ{i l}(hl:bG i l){b y}(h:y∈vC b l):iU l y:=by obtain⟨g,hg,hy⟩:=zcP.1 h;obtain⟨o,ho,rfl⟩:=zaq.1 hy;grind [XZ]
theorem Kq b l:(tZ b l).length<=l.length:=by grind [tZ]
theorem oK b: ∀l,(vC b l).length<=dx l
 | []=>zal _
 |g::l=>by have h1:=Kq b g.ops;have h2:=oK b l;grind [vC,ju]
def OpW l v r o:=(∃m,kW (fg l v r) 0 o=some m)/\o.text.length<=2/\o.elems.length<=3
def mx(r:cb):D:= .agg [iE r.1.1,iE r.1.2.1,iE r.1.2.2,iE r.2.1.1,iE r.2.1.2.1,iE r.2.1.2.2,.str r.2.2]
abbrev Ni(l:List cb):P:= .d (.sl 7 (l.map mx))
abbrev X7(z:Bool)(l:List cb):Obj:= .arr 115 z (l.map mx)
abbrev yx(z:Bool)(l:List iV):Obj:= .arr 127 z (l.map mx)
abbrev wU(x:ao):Obj:= .box 49 [iD x.1,iD x.2.1,iD x.2.2]
abbrev qc4(z:Bool)(l:List (List UInt8)):Obj:= .arr 9 z (l.map D.str)
def AtG(l:List ar)(i:Int) g:=D.nth (l.map bZ) i.toNat=bZ g
def AtR(l:List cb)(i:Int) r:=D.nth (l.map mx) i.toNat=mx r
abbrev rn9(l:List ar)(x:ao)(o:List cb)(i:Int):S:=⟨53,[(0,dw l),(3,.ref 0 0 0),(5,.sl 1 0 o.length),(6,iD i)],[(0,⟨0,none,wU x⟩),(1,⟨0,none,X7 false o⟩)]⟩
abbrev qc5(l:List ar)(x:ao)(o:List cb)(i k:Int):S:=⟨53,[(0,dw l),(3,.ref 0 0 0),(5,.sl 1 0 o.length),(6,iD i),(7,iD k)],[(0,⟨0,none,wU x⟩),(1,⟨0,none,X7 false o⟩)]⟩
def ZcB o:=En.mk 0 none (Obj.arr (115:TypeId) false (List.map mx o))
def ZcC x o:=[ze x,(1,ZcB o)]
def ZcA(o:List cb):=(5,P.sl 1 0 (List.length o))
def Zcz l i k:=[D.agg [D.int .i64 (D.aj (D.au (mr l i k) 10)),D.int .i64 (D.aj (D.au (mr l i k) 11)),D.int .i64 (D.aj (D.au (mr l i k) 12)),D.int .i64 (D.aj (D.au (mr l i k) 13)),D.int .i64 (D.aj (D.au (mr l i k) 14)),D.int .i64 (D.aj (D.au (mr l i k) 15)),D.str (D.cJ (D.au (mr l i k) 16))]]
theorem qeU l (x:ao) o i k ae:(ob (qn i l) (ob (iY l i) (bif S8 k l i then ob (qn i l) (ob (iY l i) (ob (Lc k l i) (ob (Lb l i k) (bif La l i k==(3:Int) then bif D.aj (D.au (mr l i k) 1)==Prod.fst x&&(D.aj (D.au (mr l i k) 2)==gy x&&true)&&(D.aj (D.au (mr l i k) 3)==gj x&&true) then ob (Nat.ble (List.length o) (List.length (List.map mx o))&&aG (List.length o+List.length (Zcz l i k)) 64) (ob (Zh k) (ae (PX.normal,S.mk 53 (gl l::dQ::(5,P.sl 1 0 (List.length o+List.length (Zcz l i k)))::ZI i::ZJ k) [ze x,(1,En.mk 0 none (Obj.arr (115:TypeId) false (List.take (List.length o) (List.map mx o)++Zcz l i k)))]))) else ob (Zh k) (ae (PX.normal,S.mk 53 (gl l::dQ::ZcA o::ZI i::ZJ k) (ZcC x o))) else ob (Zh k) (ae (PX.normal,S.mk 53 (gl l::dQ::ZcA o::ZI i::ZJ k) (ZcC x o))))))) else ae (PX.exit 2,S.mk 53 (gl l::dQ::ZcA o::EC i) (ZcC x o)))))=(aD [] [] 60 6 (qc5 l x o i k)) ae:=by kernel_rfl
def qeV:S->K (PX×S):=λs ae=> ∃l x o i g,AtG l i g/\s=qc5 l x o i 0/\(0<=i/\i<l.length/\o.length+g.ops.length<=1000000)/\ ∀o',o'=o++vB x g.ops->ae (.exit 2,rn9 l x o' i)
theorem qlm l x o i ae:(bif Bl i l then∃av bm bq bg g,AtG av bg g/\S.mk 53 (gl l::dQ::ZcA o::ZI i::ZW) (ZcC x o)=S.mk 53 (gl av::dQ::ZcA bq::ZI bg::ZW) (ZcC bm bq)/\((0:Int)<=bg/\bg<r4 av/\List.length bq+List.length (ar.ops g)<=1000000)/\ ∀o',o'=bq++vB bm (ar.ops g)->ob (Zh bg) (ae (PX.normal,S.mk 53 (gl av::dQ::ZcA o'::ZA bg) (ZcC bm o'))) else ae (PX.exit 0,S.mk 53 [(5,P.sl 0 0 (List.length o))] [(0,ZcB o)]))=(aD [] [(6,ah (aR 60 6) qeV)] 60 3 (rn9 l x o i)) ae:=by kernel_rfl
def qln:S->K (PX×S):=λs ae=> ∃l x,s=rn9 l x [] 0/\(l.length<=1000000/\dx l<=1000)/\ ∀o,o=fN l x->ae (.exit 0,⟨53,[(5,.sl 0 0 o.length)],[(0,⟨0,none,X7 false o⟩)]⟩)
def ZcE av:=mM av/\dx av<=1000
def ZcD av bm:=S.mk 53 (gl av::dQ::(5,Bu)::K7) [ze bm,(1,En.mk 0 none (Obj.arr (115:TypeId) false []))]
theorem qog l x ae:(∃av bm,ZcD l x=ZcD av bm/\ZcE av/\ ∀o,o=fN av bm->ae (P.sl 0 0 (List.length o),[(0,ZcB o)]))=(aI [] [(3,ah (aR 60 3) qln)] 60 [dw l,.d (aL x)] []) ae:=by kernel_rfl
def qlo:a8:=λps R ae=> ∃l x,ps=[dw l,.d (aL x)]/\R=[]/\(l.length<=1000000/\dx l<=1000)/\ ∀o,o=fN l x->ae (.sl 0 0 o.length,[(0,⟨0,none,X7 false o⟩)])
abbrev qc6(h g:List aM)(x:ao)(o:List aF)(n:Nat)(i k:Int):S:=⟨84,[(0,eI h),(1,eI g),(5,.ref 0 0 0),(7,.sl 1 0 n),(8,iD i),(9,iD k)],[(0,⟨0,none,wU x⟩),(1,⟨0,none,nj false o⟩)]⟩
abbrev of9(h g:List aM)(x:ao)(o:List aF)(i:Int):S:=⟨84,[(0,eI h),(1,eI g),(5,.ref 0 0 0),(7,.sl 1 0 o.length),(8,iD i)],[(0,⟨0,none,wU x⟩),(1,⟨0,none,nj false o⟩)]⟩
def ZcG x o:=[ze x,(1,re o)]
def ZcH(ae:PX×S->Prop) h g n i x o:=ae (PX.exit 2,S.mk 84 [vq h,vr g,wx,(7,P.sl 1 0 n),uh i] (ZcG x o))
def ZcF o k:=List.set (gb o) (Ze k) (D.aT (D.agg (Gk o k)) (Z4s o k))
theorem qhC h g x o n i k ae:(bif Zr k then ob (ke k n) (ob (Hq k o) (ob (uf o k) (ob (Z9 k) (ob (zg k n) (ob (decide (Za k<qe o)) (ob (Z4q o k) (∃a b,[P.d (D.agg (Gk o k)),P.d (D.agg (Z4s o k))]=P.d (D.agg [ni a,nf a])::oQ b/\Zx/\ ∀r,r=kA a b->bif r then ob (Z9 k) (ob (Z9 k) (ob (zg k n) (ob (decide (Za k<qe o)) (ob (Z4q o k) (ob (ke k n) (ob (Hq k o) (ob (uf o k) (ob (ke k n) (ob (Hq k o) (ob (uf o k) (ob (zg k n) (ob (decide (Za k<List.length (ZcF o k))) (ob (bO PR (27:TypeId) (D.nth (ZcF o k) (Za k))) (ob (Z9 k) (ae (PX.normal,S.mk 84 (vq h::vr g::wx::(7,P.sl 1 0 n)::uh i::Z9b k) [ze x,(1,En.mk 0 none (Obj.arr (27:TypeId) false (List.set (ZcF o k) (Za k) (D.aT (D.agg [D.int .i64 (D.aj (D.au (D.nth (ZcF o k) (Za k)) 0)),D.int .i64 (D.aj (D.au (D.nth (ZcF o k) (Za k)) 1))]) (Gk o k)))))])))))))))))))))) else ZcH ae h g n i x o))))))) else ZcH ae h g n i x o)=(aD [(53,Ec)] [] 35 8 (qc6 h g x o n i k)) ae:=by kernel_rfl
def qeW:S->K (PX×S):=λst ae=> ∃h g x o y n i k,st=qc6 h g x (o++[y]) n i k/\(k=(o.length:Int)/\n=o.length+1/\o.length<=1000000)/\ ∀o',o'=cq kA o y->ae (.exit 2,of9 h g x o' i)
def ZcJ o h i:=eH o+List.length [D.agg (S1 h i)]
def ZcI i (ae:PX×S->Prop) h g o x:=ob (Zh i) (ae (PX.normal,S.mk 84 (vq h::vr g::wx::(7,P.sl 1 0 (eH o))::rN i) (ZcG x o)))
theorem X8 h g (x:ao) o i ae:(bif M7 i h then ob (GI i h) (ob (GH h i) (bif !(D.aj (D.au (ug h i) 0)==Prod.fst x&&(D.aj (D.au (ug h i) 1)==gy x&&true)&&(D.aj (D.au (ug h i) 2)==gj x&&true)) then ZcI i ae h g o x else ob (GI i h) (ob (GH h i) (∃(l:List aM) (bm:aM),[oT g,P.d (S2 h i)]=[oT l,P.d (D.agg [D.int .i64 (Prod.fst (Prod.fst bm)),D.int .i64 (Prod.fst (Prod.snd (Prod.fst bm))),D.int .i64 (Prod.snd (Prod.snd (Prod.fst bm))),D.int .i64 (Prod.fst (Prod.snd bm)),D.int .i64 (Prod.snd (Prod.snd bm))])]/\Zx/\tX l/\ ∀b,b=decide (bm∈l)->bif b then ZcI i ae h g o x else ob (GI i h) (ob (GH h i) (∃l x_2,[sS o,P.d (D.agg (S1 h i))]=sS l::oQ x_2/\xN o=xN l/\B9 l/\ ∀b,b=decide (x_2∈l)->bif b then ob (Zh i) (ae (PX.normal,S.mk 84 (vq h::vr g::wx::(7,P.sl 1 0 (eH o))::rN i) (ZcG x l))) else ob (GI i h) (ob (GH h i) (ob (Nat.ble (eH o) (qe l)&&aG (ZcJ o h i) 16) (ob (decide (Z7<=(↑(ZcJ o h i):Int)-(1:Int)/\(↑(ZcJ o h i):Int)-(1:Int)<=Z8)) (∃h_1 bp x_3 bq y n bg k,S.mk 84 [vq h,vr g,wx,(7,P.sl 1 0 (ZcJ o h i)),uh i,(9,P.d (D.int .i64 ((↑(ZcJ o h i):Int)-(1:Int))))] [ze x,(1,En.mk 0 none (Obj.arr (27:TypeId) false (List.take (eH o) (gb l)++[D.agg (S1 h i)])))]=S.mk 84 (vq h_1::vr bp::wx::(7,P.sl 1 0 n)::uh bg::Z9f k) [ze x_3,(1,En.mk 0 none (Obj.arr (27:TypeId) false (List.map bC (bq++[y]))))]/\(k=(↑(eH bq):Int)/\n=eH bq+1/\B9 bq)/\ ∀o',o'=cq kA bq y->ZcI bg ae h_1 bp o' x_3)))))))))) else ae (PX.exit 0,S.mk 84 [(7,sS o)] [Bo o]))=(aD [(63,qhg),(14,Px)] [(8,ah (aR 35 8) qeW)] 35 3 (of9 h g x o i)) ae:=by kernel_rfl
def qlp:S->K (PX×S):=λs ae=> ∃h g x,s=of9 h g x [] 0/\(h.length<=1000000/\g.length<=1000000)/\ ∀o,o=rZ h g x->ae (.exit 0,⟨84,[(7,.sl 0 0 o.length)],[(0,⟨0,none,nj false o⟩)]⟩)
def ZcK h_1 bp bm:=S.mk 84 (vq h_1::vr bp::wx::(7,Bu)::wQ) [ze bm,(1,Ca)]
theorem qlq h g x ae:(∃h_1 bp bm,ZcK h g x=ZcK h_1 bp bm/\(tX h_1/\tX bp)/\ ∀o,o=rZ h_1 bp bm->Za1 ae o)=(aI [] [(3,ah (aR 35 3) qlp)] 35 [eI h,eI g,.d (aL x)] []) ae:=by kernel_rfl
def qlr:a8:=λps R ae=> ∃h g x,ps=[eI h,eI g,.d (aL x)]/\R=[]/\(h.length<=1000000/\g.length<=1000000)/\ ∀o,o=rZ h g x->ae (.sl 0 0 o.length,[(0,⟨0,none,nj false o⟩)])
abbrev el9(l:List cb)(o:List iV)(i:Int):S:=⟨86,[(0,Ni l),(3,.sl 0 0 o.length),(4,iD i)],[(0,⟨0,none,yx false o⟩)]⟩
abbrev X9(l:List cb)(o:List iV)(p:List (List UInt8))(a:ao)(i k:Int):S:=⟨86,[(0,Ni l),(3,.sl 0 0 o.length),(4,iD i),(5,.sl 1 0 p.length),(7,.ref 2 0 0),(8,iD k)],[(0,⟨0,none,yx false o⟩),(1,⟨0,none,qc4 false p⟩),(2,⟨0,none,wU a⟩)]⟩
abbrev qhD(l:List cb)(o:List iV)(p:List (List UInt8))(a x:ao)(h:Bool)(i k j:Int):S:=⟨86,[(0,Ni l),(3,.sl 0 0 o.length),(4,iD i),(5,.sl 1 0 p.length),(7,.ref 2 0 0),(8,iD k),(9,.ref 3 0 0),(10,.d (.bool h)),(11,iD j)],[(0,⟨0,none,yx false o⟩),(1,⟨0,none,qc4 false p⟩),(2,⟨0,none,wU a⟩),(3,⟨0,none,wU x⟩)]⟩
def wV(o:List iV):=(0,En.mk 0 none (Obj.arr (127:TypeId) false (List.map mx o)))
def ZcR o p a x:=[wV o,Ou p,(2,nS a),(3,nS x)]
def ZcP:=(9,P.ref 3 0 0)
def Lf:=(7,vp)
def Nj(p:List (List UInt8)):=(5,P.sl 1 0 (List.length p))
def HK(o:List iV):=(3,P.sl 0 0 (List.length o))
def EL l:=(0,P.d (D.sl 7 (List.map mx l)))
theorem Ya l (o:List iV) p a x h i k j ae:(bif decide (j<(↑(List.length o):Int)) then bif h then ob (Zh j) (ae (PX.normal,S.mk 86 (EL l::HK o::oR i::Nj p::Lf::uh k::ZcP::(10,ZL)::Z7z j) (ZcR o p a x))) else ob (decide ((0:Int)<=j/\j<(↑(List.length o):Int))) (ob (decide (Ze j<List.length (List.map mx o))) (ob (bO PR (127:TypeId) (D.nth (List.map mx o) (Ze j))) (ob (Zh j) (ae (PX.normal,S.mk 86 (EL l::HK o::oR i::Nj p::Lf::uh k::ZcP::(10,P.d (D.bool (D.aj (D.au (D.nth (List.map mx o) (Ze j)) 0)==Prod.fst x&&(D.aj (D.au (D.nth (List.map mx o) (Ze j)) 1)==gy x&&true)&&(D.aj (D.au (D.nth (List.map mx o) (Ze j)) 2)==gj x&&true))))::Z7z j) (ZcR o p a x)))))) else ae (PX.exit 4,S.mk 86 [EL l,HK o,oR i,Nj p,Lf,uh k,ZcP,(10,fk h)] (ZcR o p a x)))=(aD [] [] 104 13 (qhD l o p a x h i k j)) ae:=by kernel_rfl
def qeX:S->K (PX×S):=λs ae=> ∃l o p a x h i k,s=qhD l o p a x h i k 0/\o.length<=1000000/\ ∀b,b=(h ||o.any λe=>e.1==x)->ae (.exit 4,⟨86,[(0,Ni l),(3,.sl 0 0 o.length),(4,iD i),(5,.sl 1 0 p.length),(7,.ref 2 0 0),(8,iD k),(9,.ref 3 0 0),(10,.d (.bool b))],[(0,⟨0,none,yx false o⟩),(1,⟨0,none,qc4 false p⟩),(2,⟨0,none,wU a⟩),(3,⟨0,none,wU x⟩)]⟩)
def ZcU x mP mE cd:=[D.agg [fR x,fQ x,gk x,fR mP,fQ mP,gk mP,D.str (D.cJ (D.nth (List.map D.str mE) (Ze cd)))]]
def C9 l i:=D.nth (List.map mx l) (Ze i)
def ZcS i l:=decide ((0:Int)<=i/\i<(↑(List.length (List.map mx l)):Int))
theorem Yb l o p a i k ae:(bif decide (k<(↑(List.length p):Int)) then ob (ZcS i l) (ob (bO PR (115:TypeId) (C9 l i)) (ob (ZcS i l) (ob (bO PR (115:TypeId) (C9 l i)) (ob (decide (Z7<=D.aj (D.au (C9 l i) 5)+k/\D.aj (D.au (C9 l i) 5)+k<=Z8)) (∃av bq mE mP x h bg cd,S.mk 86 (EL l::HK o::oR i::Nj p::Lf::uh k::ZcP::(10,P.d (D.bool (D.aj (D.au (C9 l i) 3)==(0:Int)&&(D.aj (D.au (C9 l i) 4)==(0:Int)&&true)&&(D.aj (D.au (C9 l i) 5)+k==(0:Int)&&true))))::Z7F) [wV o,Ou p,(2,nS a),(3,En.mk 0 none (Obj.box (49:TypeId) [P.d (D.int .i64 (D.aj (D.au (C9 l i) 3))),P.d (D.int .i64 (D.aj (D.au (C9 l i) 4))),P.d (D.int .i64 (D.aj (D.au (C9 l i) 5)+k))]))]=S.mk 86 (EL av::HK bq::oR bg::Nj mE::Lf::uh cd::ZcP::(10,fk h)::Z7F) (ZcR bq mE mP x)/\List.length bq<=1000000/\ ∀b,b=(h ||List.any bq λe=>Prod.fst e==x)->bif !b then ob (decide ((0:Int)<=cd/\cd<(↑(List.length mE):Int))) (ob (decide (Ze cd<List.length (List.map D.str mE))) (ob (bO PR (9:TypeId) (D.nth (List.map D.str mE) (Ze cd))) (ob (Nat.ble (List.length bq) (List.length (List.map mx bq))&&aG (List.length bq+List.length (ZcU x mP mE cd)) 64) (ob (Zh cd) (ae (PX.normal,S.mk 86 (EL av::(3,P.sl 0 0 (List.length bq+List.length (ZcU x mP mE cd)))::oR bg::Nj mE::Lf::rN cd) ((0,En.mk 0 none (Obj.arr (127:TypeId) false (List.take (List.length bq) (List.map mx bq)++ZcU x mP mE cd)))::Ou mE::Pe x))))))) else ob (Zh cd) (ae (PX.normal,S.mk 86 (EL av::HK bq::oR bg::Nj mE::Lf::rN cd) (wV bq::Ou mE::Pe x)))))))) else ae (PX.exit 2,S.mk 86 (EL l::HK o::CX i) [wV o]))=(aD [] [(13,ah (aR 104 13) qeX)] 104 8 (X9 l o p a i k)) ae:=by kernel_rfl
def qeY:S->K (PX×S):=λs ae=> ∃l o p r i,s=X9 l o p r.1 i 0/\(0<=i/\i<l.length/\l.length<=1000000/\p.length<=100000/\o.length+p.length<=1000000/\(0<=r.2.1.2.2/\r.2.1.2.2<=1000000000000))/\AtR l i r/\ ∀o',o'=PI r o p->ae (.exit 2,el9 l o' i)
def ZcW l i:=[(2,En.mk 0 none (Obj.box (49:TypeId) [P.d (D.int .i64 (D.aj (D.au (C9 l i) 0))),P.d (D.int .i64 (D.aj (D.au (C9 l i) 1))),P.d (D.int .i64 (D.aj (D.au (C9 l i) 2)))]))]
def ZcV(ae:PX×S->Prop):=λs0=> ∃(av:List cb) (bq:List iV) (p:List (List UInt8)) (r:cb) (bg:Int),s0=S.mk 86 (EL av::HK bq::oR bg::Nj p::Lf::wQ) [wV bq,Ou p,(2,En.mk 0 none (Obj.box (49:TypeId) [P.d (D.int .i64 (Prod.fst (Prod.fst r))),P.d (D.int .i64 (Prod.fst (Prod.snd (Prod.fst r)))),P.d (D.int .i64 (Prod.snd (Prod.snd (Prod.fst r))))]))]/\((0:Int)<=bg/\bg<(↑(List.length av):Int)/\List.length av<=1000000/\List.length p<=100000/\List.length bq+List.length p<=1000000/\(0:Int)<=Prod.snd (Prod.snd (Prod.fst (Prod.snd r)))/\Prod.snd (Prod.snd (Prod.fst (Prod.snd r)))<=(1000000000000:Int))/\AtR av bg r/\ ∀o',o'=PI r bq p->ob (Zh bg) (ae (PX.normal,S.mk 86 (EL av::HK o'::wH bg) [wV o']))
theorem Yc l o i ae:(bif decide (i<(↑(List.length (List.map mx l)):Int)) then ob (ZcS i l) (ob (bO PR (115:TypeId) (C9 l i)) (∃s,[P.d (D.str (D.cJ (D.au (C9 l i) 6)))]=pU s/\Zx/\KV s/\(Vr s->ob (ZcS i l) (ob (bO PR (115:TypeId) (C9 l i)) (ZcV ae (S.mk 86 (EL l::HK o::oR i::(5,Bu)::Lf::wQ) (wV o::(1,Z1Y)::ZcW l i)))))/\(Vq s-> ∀bq,bq=KZ s->ob (ZcS i l) (ob (bO PR (115:TypeId) (C9 l i)) (ZcV ae (S.mk 86 (EL l::HK o::oR i::Nj bq::Lf::wQ) (wV o::Ou bq::ZcW l i))))))) else ae (PX.exit 0,S.mk 86 [HK o] [wV o]))=(aD [(148,Gf)] [(8,ah (aR 104 8) qeY)] 104 3 (el9 l o i)) ae:=by kernel_rfl
def nN l:=l.length<=1000000/\Le l<=1000000/\ ∀r∈l,r.2.2.length<=100000/\0<=r.2.1.2.2/\r.2.1.2.2<=1000000000000
def qls:S->K (PX×S):=λs ae=> ∃l,s=el9 l [] 0/\nN l/\ ∀o,o=Kl l->ae (.exit 0,⟨86,[(3,.sl 0 0 o.length)],[(0,⟨0,none,yx false o⟩)]⟩)
def ZcX av:=S.mk 86 (EL av::Wq) [(0,En.mk 0 none (Obj.arr (127:TypeId) false []))]
theorem qlt l ae:(∃av,ZcX l=ZcX av/\nN av/\ ∀o,o=Kl av->ae (P.sl 0 0 (List.length o),[wV o]))=(aI [] [(3,ah (aR 104 3) qls)] 104 [Ni l] []) ae:=by kernel_rfl
def qlu:a8:=λps R ae=> ∃l,ps=[Ni l]/\R=[]/\nN l/\ ∀o,o=Kl l->ae (.sl 0 0 o.length,[(0,⟨0,none,yx false o⟩)])
abbrev es9(l:List iV)(o:List ao)(i:Int):S:=⟨64,[(5,.sl 0 0 l.length),(6,.sl 1 0 o.length),(7,iD i)],[(0,⟨0,none,yx false l⟩),(1,⟨0,none,fm false o⟩)]⟩
abbrev qc7(l:List iV)(o:List ao)(n:Nat)(i k:Int):S:=⟨64,[(5,.sl 0 0 l.length),(6,.sl 1 0 n),(7,iD i),(8,iD k)],[(0,⟨0,none,yx false l⟩),(1,⟨0,none,fm false o⟩)]⟩
def ZcZ o:=[(1,sL o)]
def ZcY(l:List iV):=(5,P.sl 0 0 (List.length l))
def Zd0(ae:PX×S->Prop) l n i o:=ae (PX.exit 2,S.mk 64 [ZcY l,M3 n,qo i] (wV l::ZcZ o))
theorem qhE l o n i k ae:(bif Zr k then ob (ke k n) (ob (J0 k o) (ob (q9 o k) (ob (Z9 k) (ob (zg k n) (ob (Z9x k o) (ob (SI o k) (∃t r bg t' r' i',Z9D o k=P.d (D.agg (Zt t::Zt r::ZE bg))::ZZ t' r' i'/\Zx/\bif W4 t r bg t' r' i' then ob (Z9 k) (ob (Z9 k) (ob (zg k n) (ob (Z9x k o) (ob (SI o k) (ob (ke k n) (ob (J0 k o) (ob (q9 o k) (ob (ke k n) (ob (J0 k o) (ob (q9 o k) (ob (zg k n) (ob (decide (Za k<List.length (Z9y o k))) (ob (bO PR (49:TypeId) (D.nth (Z9y o k) (Za k))) (ob (Z9 k) (ae (PX.normal,S.mk 64 [ZcY l,M3 n,qo i,(8,Zs k)] [wV l,(1,Z9A o k)])))))))))))))))) else Zd0 ae l n i o))))))) else Zd0 ae l n i o)=(aD [(98,l5)] [] 66 8 (qc7 l o n i k)) ae:=by kernel_rfl
def qeZ:S->K (PX×S):=λst ae=> ∃l o x n i k,st=qc7 l (o++[x]) n i k/\(k=(o.length:Int)/\n=o.length+1/\o.length<=1000000)/\ ∀o',o'=cq fc o x->ae (.exit 2,es9 l o' i)
def Zd1(l:List iV) i:=[D.agg [D.int .i64 (D.aj (D.au (D.nth (List.map mx l) (Ze i)) 0)),D.int .i64 (D.aj (D.au (D.nth (List.map mx l) (Ze i)) 1)),D.int .i64 (D.aj (D.au (D.nth (List.map mx l) (Ze i)) 2))]]
def Zd2 o l i:=(↑(dH o+List.length (Zd1 l i)):Int)-(1:Int)
theorem Yd(l:List iV) o i ae:(bif decide (i<(↑(List.length l):Int)) then ob (decide ((0:Int)<=i/\i<(↑(List.length l):Int))) (ob (decide (Ze i<List.length (List.map mx l))) (ob (bO PR (127:TypeId) (D.nth (List.map mx l) (Ze i))) (ob (Nat.ble (dH o) (kU o)&&aG (dH o+List.length (Zd1 l i)) 24) (ob (decide (Z7<=Zd2 o l i/\Zd2 o l i<=Z8)) (∃av bq x n bg k,S.mk 64 [ZcY l,(6,P.sl 1 0 (dH o+List.length (Zd1 l i))),qo i,(8,P.d (D.int .i64 (Zd2 o l i)))] [wV l,(1,En.mk 0 none (Obj.arr (49:TypeId) false (SF o++Zd1 l i)))]=S.mk 64 [ZcY av,M3 n,qo bg,uh k] [wV av,(1,Z9K bq x)]/\(k=ky bq/\n=dH bq+1/\j8 bq)/\ ∀o',o'=cq fc bq x->ob (Zh bg) (ae (PX.normal,S.mk 64 (ZcY av::(6,P.sl 1 0 (dH o'))::ZJ bg) (wV av::ZcZ o')))))))) else ae (PX.exit 0,S.mk 64 [(6,pJ o)] (vP o)))=(aD [] [(8,ah (aR 66 8) qeZ)] 66 4 (es9 l o i)) ae:=by kernel_rfl
def qlv:S->K (PX×S):=λs ae=> ∃l,s=es9 l [] 0/\l.length<=1000000/\ ∀o,o=bT fc (l.map (·.1))->ae (.exit 0,⟨64,[(6,.sl 0 0 o.length)],[(0,⟨0,none,fm false o⟩)]⟩)
def Zd3 l:=S.mk 64 (ZcY l::Z9g) [wV l,(1,tO)]
theorem qlw l x ae:(∃av bm,gF l::gA x=gF av::gA bm/\Zx/\ZcE av/\ ∀o,o=fN av bm-> ∃l,[P.d (D.sl 7 (List.take (List.length o) (List.map mx o)))]=[P.d (D.sl 7 (List.map mx l))]/\Zx/\nN l/\ ∀o,o=Kl l-> ∃l,Zd3 o=Zd3 l/\List.length l<=1000000/\ ∀o,o=bT fc (List.map (λ(x:iV)=>Prod.fst x) l)->S3 ae o)=(aI [(60,qlo),(104,qlu)] [(4,ah (aR 66 4) qlv)] 66 [dw l,.d (aL x)] []) ae:=by kernel_rfl
def qlx:a8:=λps R ae=> ∃l x,ps=[dw l,.d (aL x)]/\R=[]/\(l.length<=1000000/\dx l<=1000/\nN (fN l x))/\ ∀o,o=Nh l x->ae (.sl 0 0 o.length,[(0,⟨0,none,fm false o⟩)])
abbrev knH(l:List ar)(v:List Int)(o:List ar)(i:Int):S:=⟨35,[(0,dw l),(1,vD v),(5,.sl 0 0 o.length),(6,iD i)],[(0,⟨0,none,pW false o⟩)]⟩
theorem qe0 l v o i ae:(bif Bl i l then ob (qn i l) (ob (iY l i) (ob (qn i l) (ob (iY l i) (∃av r,[Zi v,P.d (Bj l i)]=Zi av::Zv r/\Zx/\Zz av/\bif decide (D.aj (D.au (ln l i) 2)<=eV av r) then ob (qn i l) (ob (iY l i) (ob (Nat.ble (fS o) (iu o)&&aG (SN o l i) 88) (ob (Zh i) (ae (PX.normal,S.mk 35 (gl l::Zk v::(5,P.sl 0 0 (SN o l i))::ZA i) [(0,Zcq o l i)]))))) else ob (Zh i) (ae (PX.normal,S.mk 35 (gl l::Zk v::(5,rK o)::ZA i) (RA o))))))) else ae (PX.exit 0,S.mk 35 [(5,rK o)] (RA o)))=(aD [(40,hAt)] [] 39 3 (knH l v o i)) ae:=by kernel_rfl
def gKn:S->K (PX×S):=λs ae=> ∃l v,s=knH l v [] 0/\(l.length<=1000000/\v.length<=1000000)/\ ∀o,o=aP l v->ae (.exit 0,⟨35,[(5,.sl 0 0 o.length)],[(0,⟨0,none,pW false o⟩)]⟩)
theorem qoh l v ae:(∃av dC,S.mk 35 (gl l::Zk v::Xg) Z5Z=S.mk 35 (gl av::Zk dC::Xg) Z5Z/\(mM av/\SK dC)/\ ∀o,o=aP av dC->ae (rK o,RA o))=(aI [] [(3,ah (aR 39 3) gKn)] 39 [dw l,vD v] []) ae:=by kernel_rfl
def hKn:a8:=λps R ae=> ∃l v,ps=[dw l,vD v]/\R=[]/\(l.length<=1000000/\v.length<=1000000)/\ ∀o,o=aP l v->ae (.sl 0 0 o.length,[(0,⟨0,none,pW false o⟩)])
abbrev Ye(l:List ar)(t i:Int):S:=⟨20,[(0,dw l),(3,iD t),(4,iD i)],[]⟩
theorem qe1 l t i ae:(bif Bl i l then ob (qn i l) (ob (iY l i) (ob (Zh i) (ae (PX.normal,S.mk 20 (gl l::(3,P.d (D.int .i64 (max t (D.aj (D.au (ln l i) 0)))))::wH i) [])))) else ae (PX.exit 0,S.mk 20 (Zu t) []))=(aD [] [] 15 3 (Ye l t i)) ae:=by kernel_rfl
def qe2:S->K (PX×S):=λs ae=> ∃l,s=Ye l 0 0/\l.length<=1000000/\ ∀t,t=gE l->ae (.exit 0,⟨20,[(3,iD t)],[]⟩)
def Zd4 av:=S.mk 20 (gl av::(3,P.d Z5)::Ry) []
theorem qoi l ae:(∃av,Zd4 l=Zd4 av/\mM av/\ ∀t,t=gE av->ae (P.d (Zt t),[]))=(aI [] [(3,ah (aR 15 3) qe2)] 15 [dw l] []) ae:=by kernel_rfl
def Yf:a8:=λps R ae=> ∃l,ps=[dw l]/\R=[]/\l.length<=1000000/\ ∀t,t=gE l->ae (iD t,[])
abbrev ndH(l:List ar)(b:Bool)(o:List ao)(i:Int):S:=⟨60,[(0,dw l),(1,.d (.bool b)),(5,.sl 0 0 o.length),(6,iD i)],[(0,⟨0,none,fm false o⟩)]⟩
abbrev ndI(l:List ar)(b:Bool)(o:List ao)(i k:Int):S:=⟨60,[(0,dw l),(1,.d (.bool b)),(5,.sl 0 0 o.length),(6,iD i),(7,iD k)],[(0,⟨0,none,fm false o⟩)]⟩
def Tb b:=(1,fk b)
def Zd7 k (ae:PX×S->Prop) l b o i:=ob (Zh k) (ae (PX.normal,S.mk 60 (gl l::Tb b::(5,pJ o)::ZI i::ZJ k) (vP o)))
def Zd5 l i k:=[D.agg [ZbK l i k,ZbL l i k,ZbM l i k]]
theorem qe3 l b o i k ae:(ob (qn i l) (ob (iY l i) (bif S8 k l i then ob (qn i l) (ob (iY l i) (ob (Lc k l i) (ob (Lb l i k) (bif La l i k==(0:Int) then ob (qn i l) (ob (iY l i) (ob (Lc k l i) (ob (Lb l i k) (bif D.dp (D.au (mr l i k) 8)==b then ob (qn i l) (ob (iY l i) (ob (Lc k l i) (ob (Lb l i k) (ob (Nat.ble (dH o) (kU o)&&aG (dH o+List.length (Zd5 l i k)) 24) (ob (Zh k) (ae (PX.normal,S.mk 60 (gl l::Tb b::(5,P.sl 0 0 (dH o+List.length (Zd5 l i k)))::ZI i::ZJ k) [(0,En.mk 0 none (Obj.arr (49:TypeId) false (SF o++Zd5 l i k)))]))))))) else Zd7 k ae l b o i)))) else Zd7 k ae l b o i)))) else ae (PX.exit 2,S.mk 60 (gl l::Tb b::(5,pJ o)::EC i) (vP o)))))=(aD [] [] 20 6 (ndI l b o i k)) ae:=by kernel_rfl
def qly:S->K (PX×S):=λs ae=> ∃l b o i g,AtG l i g/\s=ndI l b o i 0/\(0<=i/\i<l.length/\o.length+g.ops.length<=1000000)/\ ∀o',o'=o++tZ b g.ops->ae (.exit 2,ndH l b o' i)
theorem qe4 l b o i ae:(bif Bl i l then∃av W8 bq bg g,AtG av bg g/\S.mk 60 (gl l::Tb b::(5,pJ o)::ZI i::ZW) (vP o)=S.mk 60 (gl av::Tb W8::(5,pJ bq)::ZI bg::ZW) (vP bq)/\((0:Int)<=bg/\bg<r4 av/\dH bq+List.length (ar.ops g)<=1000000)/\ ∀o',o'=bq++tZ W8 (ar.ops g)->ob (Zh bg) (ae (PX.normal,S.mk 60 (gl av::Tb W8::(5,pJ o')::ZA bg) (vP o'))) else ae (PX.exit 0,S.mk 60 [(5,pJ o)] (vP o)))=(aD [] [(6,ah (aR 20 6) qly)] 20 3 (ndH l b o i)) ae:=by kernel_rfl
def gNd:S->K (PX×S):=λs ae=> ∃l b,s=ndH l b [] 0/\(l.length<=1000000/\dx l<=1000)/\ ∀o,o=vC b l->ae (.exit 0,⟨60,[(5,.sl 0 0 o.length)],[(0,⟨0,none,fm false o⟩)]⟩)
def Zd8 av W8:=S.mk 60 (gl av::Tb W8::Xg) [(0,tO)]
theorem qoj l b ae:(∃av W8,Zd8 l b=Zd8 av W8/\ZcE av/\ ∀o,o=vC W8 av->S3 ae o)=(aI [] [(3,ah (aR 20 3) gNd)] 20 [dw l,.d (.bool b)] []) ae:=by kernel_rfl
def qlz:a8:=λps R ae=> ∃l b,ps=[dw l,.d (.bool b)]/\R=[]/\(l.length<=1000000/\dx l<=1000)/\ ∀o,o=vC b l->ae (.sl 0 0 o.length,[(0,⟨0,none,fm false o⟩)])
theorem qok a b ae:(ob (Nat.ble 0 0&&aG (0+kU a) 24) (ob (Nat.ble (0+kU a) (List.length ([]++dW a))&&aG (0+kU a+kU b) 24) (ae (P.sl 0 0 (0+kU a+kU b),[(0,En.mk 0 none (Obj.arr (49:TypeId) false (List.take (0+kU a) ([]++dW a)++dW b)))]))))=(aI [] [] 19 [ct a,ct b] []) ae:=by kernel_rfl
def hJn:a8:=λps R ae=> ∃a b,ps=[ct a,ct b]/\R=[]/\(a.length<=1000000/\b.length<=1000000)/\ ∀o,o=a++b->ae (.sl 0 0 o.length,[(0,⟨0,none,fm false o⟩)])
theorem Kr{l:List ar}{v i}(h:i<l.length):aP (l.take (i+1)) v=if l[i].n<=eV v l[i].s.2 then aP (l.take i) v++[l[i]] else aP (l.take i) v:=by
 unfold aP;rw[zaf h,zcC];by_cases hc:l[i].n<=eV v l[i].s.2
 ·rw[zap hc,zcN (by simpa using hc)];rfl
 rw[zan hc,zcO (by simpa using hc),List.filter_nil,zbi]
theorem Nk l v:(aP l v).length<=l.length:=zaM _ _
section
variable{X:XF}
theorem qhF:LD X 39 3 (ah (aR 39 3) gKn):=LD.idx (by kernel_rfl) (by kernel_rfl) (.cons Jg .nil) .nil
 (A:=List ar×List Int) (B:=List ar) (λa o i=>knH a.1 a.2 o i) (λa=>a.1.length) (λa i o=>(a.1.length<=1000000/\a.2.length<=1000000)/\o=aP (a.1.take i) a.2)
 (λa x=>x=(.exit 0,⟨35,[(5,.sl 0 0 (aP a.1 a.2).length)],[(0,⟨0,none,pW false (aP a.1 a.2)⟩)]⟩))
 (by
  rintro⟨l,v⟩ o i ae h0 bJ bs ⟨hl,gK⟩ hn ho
  try dsimp only at*
  (rw[<-qe0];delta tT RA fS rK Ze ln Bj Bk OV Ld Zcq Zl Zm ZA Zi Zk gF gl Z8 Z7 Zh SN iu Zy Zz Zx Zt Zv iY qn Bl)
  have e1:D.nth (l.map bZ) i.toNat=bZ l[i.toNat]:=az _ _ _ bs;have jT:o.length<=l.length:=by rw[gK];exact zaL (Nk _ _) (by rw[zau];exact Nat.min_le_right _ _)
  have hk:=Kr (v:=v) bs;rw[<-gK] at hk;have gQ:i<((l.map bZ).length:Int):=by rw[zaa];exact bJ
  have RQ:i.toNat<(l.map bZ).length:=by rw[zaa];exact bs
  rw[e1];generalize l[i.toNat]=g at*
  have ru:=mL g;have t2:D.agg [D.int .i64 (D.aj (D.au (bZ g) 0)),D.int .i64 (D.aj (D.au (bZ g) 1)),D.int .i64 g.n,D.sl 1 (D.gW (D.au (bZ g) 3)),D.int .i64 (D.aj (D.au (bZ g) 4)),D.int .i64 (D.aj (D.au (bZ g) 5)),D.sl 18 (D.gW (D.au (bZ g) 6))]=bZ g:=rfl;have u2:D.aj (D.au (bZ g) 2)=g.n:=rfl;refine kJ (za0 gQ) (ak ⟨h0,gQ⟩ (aq ru (ak ⟨h0,gQ⟩ (aq ru ⟨v,g.s.2,rfl,rfl,by omega,?_⟩))));rw[u2];refine dY (λhc=>ak ⟨h0,gQ⟩ (aq ru (aq ?_ (ak (by omega) ?_)))) λhc=>ak (by omega) ?_
  ·rw[zac];exact⟨by simp,cH (by omega) (by omega)⟩
  ·have:=hn (o++[g]) ⟨hl,by rw[hk,zap hc]⟩;rw[t2,b7];simp only[knH,zaj,zao,zav,zaD] at this;exact this
  exact hn o ⟨hl,by rw[hk,zan hc]⟩)
 (by
  rintro⟨l,v⟩ o i ae hi ⟨hl,gK⟩ ho
  try dsimp only at*
  (rw[<-qe0];delta tT RA fS rK Ze ln Bj Bk OV Ld Zcq Zl Zm ZA Zi Zk gF gl Z8 Z7 Zh SN iu Zy Zz Zx Zt Zv iY qn Bl)
  have gQ: ¬i<((l.map bZ).length:Int):=by rw[zaa];omega
  rw[zai] at gK;refine fJ (zaS gQ) (ho _ (λh=>by cases h) ?_);rw[gK])
 (by rintro s ae ⟨l,v,rfl,hl,hp⟩;refine⟨(l,v),[],rfl,⟨hl,rfl⟩,?_⟩;rintro x rfl;exact hp _ rfl)
theorem qol:FD X 39 hKn:=FD.mk (by kernel_rfl) .nil (.cons qhF .nil) (by
 intro ps R ae hh;obtain⟨l,v,rfl,rfl,hl,hp⟩:=hh
 (rw[<-qoh];delta tT RA fS rK SK mM SO Z5Z Z5 K7 ZN Xg Zi Zk gF gl)
 exact⟨l,v,rfl,hl,λo ho=>hp o ho⟩)
theorem Yg:LD X 15 3 (ah (aR 15 3) qe2):=LD.idx (by kernel_rfl) (by kernel_rfl) .nil .nil
 (A:=List ar) (B:=Int) (λl t i=>Ye l t i) (λl=>l.length) (λl i t=>l.length<=1000000/\t=gE (l.take i))
 (λl x=>x=(.exit 0,⟨20,[(3,iD (gE l))],[]⟩))
 (by
  rintro l t i ae h0 bJ bs ⟨hl,rfl⟩ hn ho
  try dsimp only at*
  (rw[<-qe1];delta Zt Zu Zl Zm wH Ze ln gF gl Z8 Z7 Zh iY iu qn Bl)
  have e1:D.nth (l.map bZ) i.toNat=bZ l[i.toNat]:=az _ _ _ bs;have hk:=Xz bs;have gQ:i<((l.map bZ).length:Int):=by rw[zaa];exact bJ
  rw[e1];have ru:=mL l[i.toNat];refine kJ (za0 gQ) (ak ⟨h0,gQ⟩ (aq ru (ak (by omega) ?_)));have:=hn _ ⟨hl,rfl⟩;rw[hk] at this;exact this)
 (by
  rintro l t i ae hi ⟨hl,ht⟩ ho
  try dsimp only at*
  (rw[<-qe1];delta Zt Zu Zl Zm wH Ze ln gF gl Z8 Z7 Zh iY iu qn Bl)
  have gQ: ¬i<((l.map bZ).length:Int):=by rw[zaa];omega
  rw[zai] at ht;refine fJ (zaS gQ) (ho _ (λh=>by cases h) ?_);rw[ht])
 (by rintro s ae ⟨l,rfl,hl,hp⟩;refine⟨l,0,rfl,⟨hl,rfl⟩,?_⟩;rintro x rfl;exact hp _ rfl)
theorem Yh:FD X 15 Yf:=FD.mk (by kernel_rfl) .nil (.cons Yg .nil) (by
 intro ps R ae hh;obtain⟨l,rfl,rfl,hl,hp⟩:=hh
 (rw[<-qoi];delta Zt fS mM Z5 Ry gF gl Zd4)
 exact⟨l,rfl,hl,λt ht=>hp t ht⟩)
theorem qom:FD X 19 hJn:=FD.mk (by kernel_rfl) .nil .nil (by
 intro ps R ae hh;obtain⟨a,b,rfl,rfl,⟨ha,hb⟩,hp⟩:=hh
 (rw[<-qok];delta dW kU)
 have:=hp (a++b) rfl;have tk:List.take a.length (a.map aL)=a.map aL:=zak (by simp);simp only[zbq,zaD,zaa];rw[tk];refine aq ?_ (aq ?_ ?_)
 ·rw[zac];exact⟨by simp,cL (by omega) (by omega)⟩
 ·rw[zac];exact⟨by simp,cL (by omega) (by omega)⟩
 rw[<-zaC];rw[zaj] at this;exact this)
theorem Sc{b}{l:List bj}{k}(h:k<l.length):tZ b (l.take (k+1))=if l[k].kind=0/\l[k].dir=b then tZ b (l.take k)++[l[k].node] else tZ b (l.take k):=by
 unfold tZ;rw[zaf h,zcC];split
 next hc=>rw[zcN (by simp[hc.1,hc.2])];simp
 rename_i hc;rw[zcO (by rw[zac,za1,za1];exact hc)];simp
theorem Sd{b}{l:List ar}{i}(h:i<l.length):vC b (l.take (i+1))=vC b (l.take i)++tZ b l[i].ops:=by unfold vC;rw[zaf h,zce];simp
theorem qc8:LD X 20 6 (ah (aR 20 6) qly):=LD.idx (by kernel_rfl) (by kernel_rfl) .nil .nil
 (A:=List ar×Bool×List ao×Int×ar) (B:=List ao) (λa o k=>ndI a.1 a.2.1 o a.2.2.2.1 k) (λa=>a.2.2.2.2.ops.length)
 (λa k o=>((0<=a.2.2.2.1/\a.2.2.2.1<a.1.length)/\D.nth (a.1.map bZ) a.2.2.2.1.toNat=bZ a.2.2.2.2/\a.2.2.1.length+a.2.2.2.2.ops.length<=1000000)/\o=a.2.2.1++tZ a.2.1 (a.2.2.2.2.ops.take k))
 (λa z=>z=(.exit 2,ndH a.1 a.2.1 (a.2.2.1++tZ a.2.1 a.2.2.2.2.ops) a.2.2.2.1))
 (by
  rintro⟨l,b,o0,i,g⟩ o k ae h0 wc eD ⟨⟨hb,hg,hl⟩,ho⟩ hn bw
  try dsimp only at*
  (rw[<-qe3];delta dW sL vP Zt ZI EC dH pJ Zl Zm ZJ fk Tb gF gl Z8 Z7 Zh Zd7 SF Ze ln mr ZbM ZbL ZbK Zd5 kU La Lb Lc S8 iY iu qn)
  have gQ:0<=i/\i<((l.map bZ).length:Int):=by rw[zaa];exact hb
  have u6:D.gW (D.au (bZ g) 6)=g.ops.map eT:=rfl;have e1:D.nth (g.ops.map eT) k.toNat=eT g.ops[k.toNat]:=az _ _ _ eD;have nq:=Sc (b:=b) eD;have jT:o.length<1000000:=by have:=Kq b (g.ops.take k.toNat);rw[zau] at this;rw[ho,zaj];omega
  rw[hg,u6,e1];have Nc:0<=k/\k<((g.ops.map eT).length:Int):=by rw[zaa];exact⟨h0,wc⟩
  generalize g.ops[k.toNat]=y at*
  have ru:=mL g;have ux:=MI y;have c0:D.aj (D.au (eT y) 0)=y.kind:=rfl;have c1:D.dp (D.au (eT y) 8)=y.dir:=rfl;have t2:D.agg [D.int .i64 (D.aj (D.au (eT y) 1)),D.int .i64 (D.aj (D.au (eT y) 2)),D.int .i64 (D.aj (D.au (eT y) 3))]=aL y.node:=rfl;rw[c0,c1,t2,b7];have bI: ¬(y.kind=0/\y.dir=b)->o0++tZ b (g.ops.take (k.toNat+1))=o:=λh=>by rw[nq,ho,zan h]
  have dV:y.kind=0->y.dir=b->o0++tZ b (g.ops.take (k.toNat+1))=o++[y.node]:=λh1 h2=>by rw[nq,ho,zap ⟨h1,h2⟩,zaK]
  refine ak gQ (aq ru (bF Nc.2 (ak gQ (aq ru (ak Nc (aq ux (JP (λhk=>ak gQ (aq ru (ak Nc (aq ux (ay (λhx=>ak gQ (aq ru (ak Nc (aq ux ?_)))) λhx=>ak (by omega) (hn o ⟨⟨hb,hg,hl⟩,(bI (λhh=>by rw[hh.2] at hx;simp at hx)).symm⟩)))))) λhk=>ak (by omega) (hn o ⟨⟨hb,hg,hl⟩,(bI (λhh=>hk hh.1)).symm⟩))))))));have hy:=hn (o++[y.node]) ⟨⟨hb,hg,hl⟩,(dV hk (by simpa using hx)).symm⟩;simp only[ndI,zaj] at hy;refine aq (eF rfl (by rw[zaa]) (by omega) (by decide)) (ak (by omega) ?_);exact hy)
 (by
  rintro⟨l,b,o0,i,g⟩ o k ae hk ⟨⟨hb,hg,hl⟩,ho⟩ bw
  try dsimp only at*
  (rw[<-qe3];delta dW sL vP Zt ZI EC dH pJ Zl Zm ZJ fk Tb gF gl Z8 Z7 Zh Zd7 SF Ze ln mr ZbM ZbL ZbK Zd5 kU La Lb Lc S8 iY iu qn)
  have gQ:0<=i/\i<((l.map bZ).length:Int):=by rw[zaa];exact hb
  have u6:D.gW (D.au (bZ g) 6)=g.ops.map eT:=rfl;rw[hg,u6];refine ak gQ (aq (mL g) (mD (by rw[zaa];omega) (bw _ (λh=>by cases h) ?_)));rw[ho,zai])
 (by rintro s ae ⟨l,b,o,i,g,hg,rfl,⟨h1,h2,h3⟩,hp⟩;refine⟨(l,b,o,i,g),o,rfl,⟨⟨⟨h1,h2⟩,hg,h3⟩,by simp[tZ]⟩,?_⟩;rintro z rfl;exact hp _ rfl)
theorem qhG:LD X 20 3 (ah (aR 20 3) gNd):=LD.idx (by kernel_rfl) (by kernel_rfl) .nil (.cons qc8 .nil)
 (A:=List ar×Bool) (B:=List ao) (λa o i=>ndH a.1 a.2 o i) (λa=>a.1.length)
 (λa i o=>(a.1.length<=1000000/\dx a.1<=1000)/\o=vC a.2 (a.1.take i))
 (λa z=>z=(.exit 0,⟨60,[(5,.sl 0 0 (vC a.2 a.1).length)],[(0,⟨0,none,fm false (vC a.2 a.1)⟩)]⟩))
 (by
  rintro⟨l,b⟩ o i ae h0 bJ bs ⟨hc,ho⟩ hn bw
  try dsimp only at*
  (rw[<-qe4];delta Zl Zm ZA Z8 Z7 Zh dH fS r4 dW sL vP Z5 ZW Zt ZI pJ fk Tb gF gl iu Bl)
  have nq:=Sd (b:=b) bs;have h2:=rL l (i.toNat+1);have h3:=tV bs;have h4:=oK b (l.take i.toNat);rw[<-ho] at h4;refine bF (by rw[zaa];exact bJ) ⟨l,b,o,i,l[i.toNat],az _ _ _ bs,rfl,⟨h0,bJ,by omega⟩,λo' gK=>ak (by omega) (hn o' ⟨hc,?_⟩)⟩;rw[gK,ho,nq])
 (by
  rintro⟨l,b⟩ o i ae hi ⟨hc,ho⟩ bw
  try dsimp only at*
  (rw[<-qe4];delta Zl Zm ZA Z8 Z7 Zh dH fS r4 dW sL vP Z5 ZW Zt ZI pJ fk Tb gF gl iu Bl)
  refine mD (by rw[zaa];omega) (bw _ (λh=>by cases h) ?_);rw[ho,zai])
 (by rintro s ae ⟨l,b,rfl,hc,hp⟩;refine⟨(l,b),[],rfl,⟨hc,rfl⟩,?_⟩;rintro z rfl;exact hp _ rfl)
theorem qlA:FD X 20 qlz:=FD.mk (by kernel_rfl) .nil (.cons qhG .nil) (by
 intro ps R ae hh;obtain⟨l,b,rfl,rfl,hs,hp⟩:=hh
 (rw[<-qoj];delta dW sL vP dH pJ S3 fS mM ZcE tO Z5 K7 ZN Xg fk Tb gF gl Zd8)
 exact⟨l,b,rfl,hs,λo ho=>hp o ho⟩)
end
theorem Yi r:bO PR 115 (mx r)=true:=by rfl
theorem qlB(r:iV):bO PR 127 (mx r)=true:=by rfl
theorem qon s:bO PR 9 (D.str s)=true:=by rfl
theorem Se{x}{l:List bj}{k}(h:k<l.length):vB x (l.take (k+1))=vB x (l.take k)++GQ x l[k]:=by grind [vB,List.take_succ_eq_append_getElem]
theorem Nl{x}{l:List ar}{i}(h:i<l.length):fN (l.take (i+1)) x=fN (l.take i) x++vB x l[i].ops:=by grind [fN,List.take_succ_eq_append_getElem]
section
variable{X:XF}
theorem Yj:LD X 60 6 (ah (aR 60 6) qeV):=LD.idx (by rfl) (by rfl) .nil .nil
 (A:=List ar×ao×List cb×Int×ar) (B:=List cb) (λa o k=>qc5 a.1 a.2.1 o a.2.2.2.1 k) (λa=>a.2.2.2.2.ops.length)
 (λa k o=>((0<=a.2.2.2.1/\a.2.2.2.1<a.1.length)/\D.nth (a.1.map bZ) a.2.2.2.1.toNat=bZ a.2.2.2.2/\a.2.2.1.length+a.2.2.2.2.ops.length<=1000000)/\o=a.2.2.1++vB a.2.1 (a.2.2.2.2.ops.take k))
 (λa z=>z=(.exit 2,rn9 a.1 a.2.1 (a.2.2.1++vB a.2.1 a.2.2.2.2.ops) a.2.2.2.1))
 (by
  rintro⟨l,x,o0,i,g⟩ o k ae h0 wc eD ⟨⟨hb,hg,hl⟩,ho⟩ hn bw
  try dsimp only at*
  (rw[<-qeU];delta Zt ZI EC ZcB gj gk gy fQ fR nS ze ZcC ZcA Zl Zm ZJ b9 dQ gF gl Z8 Z7 Zh Ze ln mr Zcz La Lb Lc S8 iY iu qn)
  have gQ:0<=i/\i<((l.map bZ).length:Int):=by rw[zaa];exact hb
  have u6:D.gW (D.au (bZ g) 6)=g.ops.map eT:=rfl;have e1:D.nth (g.ops.map eT) k.toNat=eT g.ops[k.toNat]:=az _ _ _ eD;have nq:=Se (x:=x) eD;have jT:o.length<1000000:=by have:=BK x (g.ops.take k.toNat);rw[zau] at this;rw[ho,zaj];omega
  rw[hg,u6,e1];have Nc:0<=k/\k<((g.ops.map eT).length:Int):=by grind
  generalize g.ops[k.toNat]=y at*
  have ru:=mL g;have ux:=MI y;have c0:D.aj (D.au (eT y) 0)=y.kind:=rfl;have c1:(D.aj (D.au (eT y) 1)==x.1&&(D.aj (D.au (eT y) 2)==x.2.1&&true)&&(D.aj (D.au (eT y) 3)==x.2.2&&true))=(y.node==x):=vo y.node x;have t2:D.agg [D.int .i64 (D.aj (D.au (eT y) 10)),D.int .i64 (D.aj (D.au (eT y) 11)),D.int .i64 (D.aj (D.au (eT y) 12)),D.int .i64 (D.aj (D.au (eT y) 13)),D.int .i64 (D.aj (D.au (eT y) 14)),D.int .i64 (D.aj (D.au (eT y) 15)),D.str (D.cJ (D.au (eT y) 16))]=mx (y.after,y.elem,y.text):=rfl;rw[c0,c1,t2,b7];have bI: ¬(y.kind=3/\y.node=x)->o0++vB x (g.ops.take (k.toNat+1))=o:=λh=>by
   rw[nq,ho];have:GQ x y=[]:=by unfold GQ;rw[zan h]
   rw[this,zbi]
  have dV:y.kind=3->y.node=x->o0++vB x (g.ops.take (k.toNat+1))=o++[(y.after,y.elem,y.text)]:=λh1 h2=>by
   rw[nq,ho,zaK];have:GQ x y=[(y.after,y.elem,y.text)]:=by unfold GQ;rw[zap ⟨h1,h2⟩]
   rw[this]
  refine ak gQ (aq ru (bF Nc.2 (ak gQ (aq ru (ak Nc (aq ux (JP (λhk=>ay (λhx=> ?_) λhx=>ak (by omega) (hn o ⟨⟨hb,hg,hl⟩,(bI (λhh=>by rw[hh.2] at hx;simp at hx)).symm⟩)) λhk=>ak (by omega) (hn o ⟨⟨hb,hg,hl⟩,(bI (λhh=>hk hh.1)).symm⟩))))))));have hy:=hn (o++[(y.after,y.elem,y.text)]) ⟨⟨hb,hg,hl⟩,(dV hk (by grind)).symm⟩;simp only[qc5,zaj] at hy;refine aq (eF rfl (by rw[zaa]) (by omega) (by decide)) (ak (by omega) ?_);exact hy)
 (by
  rintro⟨l,x,o0,i,g⟩ o k ae hk ⟨⟨hb,hg,hl⟩,ho⟩ bw
  try dsimp only at*
  (rw[<-qeU];delta Zt ZI EC ZcB gj gk gy fQ fR nS ze ZcC ZcA Zl Zm ZJ b9 dQ gF gl Z8 Z7 Zh Ze ln mr Zcz La Lb Lc S8 iY iu qn)
  have gQ:0<=i/\i<((l.map bZ).length:Int):=by rw[zaa];exact hb
  have u6:D.gW (D.au (bZ g) 6)=g.ops.map eT:=rfl;rw[hg,u6];refine ak gQ (aq (mL g) (mD (by rw[zaa];omega) (bw _ (λh=>by cases h) ?_)));rw[ho,zai])
 (by rintro s ae ⟨l,x,o,i,g,hg,rfl,⟨h1,h2,h3⟩,hp⟩;refine⟨(l,x,o,i,g),o,rfl,⟨⟨⟨h1,h2⟩,hg,h3⟩,by simp[vB]⟩,?_⟩;grind)
theorem qc9:LD X 60 3 (ah (aR 60 3) qln):=LD.idx (by rfl) (by rfl) .nil (.cons Yj .nil)
 (A:=List ar×ao) (B:=List cb) (λa o i=>rn9 a.1 a.2 o i) (λa=>a.1.length)
 (λa i o=>(a.1.length<=1000000/\dx a.1<=1000)/\o=fN (a.1.take i) a.2)
 (λa z=>z=(.exit 0,⟨53,[(5,.sl 0 0 (fN a.1 a.2).length)],[(0,⟨0,none,X7 false (fN a.1 a.2)⟩)]⟩))
 (by
  rintro⟨l,x⟩ o i ae h0 bJ bs ⟨hc,ho⟩ hn bw
  try dsimp only at*
  have nq:=Nl (x:=x) bs;have h2:=rL l (i.toNat+1);have h3:=tV bs;have h4:=wT x (l.take i.toNat);rw[<-ho] at h4;refine bF (by rw[zaa];exact bJ) ⟨l,x,o,i,l[i.toNat],az _ _ _ bs,rfl,⟨h0,bJ,by omega⟩,λo' gK=>ak (by omega) (hn o' ⟨hc,?_⟩)⟩;rw[gK,ho,nq])
 (by
  rintro⟨l,x⟩ o i ae hi ⟨hc,ho⟩ bw
  try skip
  (rw[<-qlm];delta ZcB Zl Zm ZA Z8 Z7 Zh fS r4 gj gk gy fQ fR nS ze ZcC Z5 ZW Zt ZI ZcA b9 dQ gF gl iu Bl)
  refine mD (by rw[zaa];omega) (bw _ (λh=>by cases h) ?_);rw[ho,zai])
 (by rintro s ae ⟨l,x,rfl,hc,hp⟩;refine⟨(l,x),[],rfl,⟨hc,rfl⟩,?_⟩;grind)
theorem qlC:FD X 60 qlo:=FD.mk (by rfl) .nil (.cons qc9 .nil) (by
 intro ps R ae hh;obtain⟨l,x,rfl,rfl,hs,hp⟩:=hh
 (rw[<-qog];delta ZcB fS mM ZcE gj gk gy fQ fR nS ze Z5 K7 Bu b9 dQ gF gl ZcD)
 grind)
theorem Yk:LD X 35 8 (ah (aR 35 8) qeW):=LD.ins (by rfl) (by rfl) (.cons Bd .nil) .nil
 (A:=List aM×List aM×ao×Nat×Int) (α:=aF) (λa o k=>qc6 a.1 a.2.1 a.2.2.1 o a.2.2.2.1 a.2.2.2.2 k) kA (λa=>a.2.2.2.1) (λ_=>True) (λa o=>(.exit 2,⟨84,[(0,eI a.1),(1,eI a.2.1),(5,.ref 0 0 0),(7,.sl 1 0 a.2.2.2.1),(8,iD a.2.2.2.2)],[(0,⟨0,none,wU a.2.2.1⟩),(1,⟨0,none,nj false o⟩)]⟩)) (λ_ _ h=>by cases h)
 (by
  rintro⟨h,g,v,n,i⟩ o k ae _ h0 Hx jT hk hz bI dV
  try dsimp only at*
  subst Hx
  (rw[<-qhC];delta gb re gj gk gy fQ fR nS ze ZcG Zt uh b9 wx oT vr vq ZcH Zs Z9b Za Z4s Ze Hn Gj Gk ZcF Zx nf ni oQ Z4q qe zg Z8 Z7 Z9 uf Hq ke Zr)
  refine dY (λhp=> ?_) λhp=>hz (by omega);have fU:k.toNat-1<o.length:=by omega
  have ek:(k-1).toNat=k.toNat-1:=by omega
  have e1:D.nth (o.map bC) k.toNat=bC o[k.toNat]:=az _ _ _ hk;have e2:D.nth (o.map bC) (k.toNat-1)=bC o[k.toNat-1]:=az _ _ _ fU;have bI:=bI hp;have dV:=dV hp;have Bx:=lq bC o k.toNat o[k.toNat] o[k.toNat-1];have e3: ∀z,D.nth ((o.map bC).set k.toNat z) (k.toNat-1)=bC o[k.toNat-1]:=λz=>by grind [D.nth]
  rw[ek,e1,e2];simp only[e3];generalize o[k.toNat]=x at*
  generalize o[k.toNat-1]=y at*
  simp only[zaa,zbp] at dV⊢;have By:0<=k/\k<(o.length:Int):=⟨h0,by omega⟩
  have Bz:0<=k-1/\k-1<(o.length:Int):=⟨by omega,by omega⟩
  have hf:(-9223372036854775808:Int)<=k-1/\k-1<=9223372036854775807:=by omega
  refine ak By (ak hk (aq (iO _) (ak hf (ak Bz (ak fU (aq (iO _) ⟨x,y,rfl,rfl,λb hb=>ay (λh=> ?_) λh=>bI (by rw[<-hb];exact h)⟩))))));have hy:=dV (by rw[<-hb];exact h);simp only[qc6,nj] at hy;rw[<-Bx] at hy;refine ak hf (ak hf (ak Bz (ak fU (aq (iO _) (ak By (ak hk (aq (iO _) (ak By (ak hk (aq (iO _) (ak Bz (ak fU (aq (iO _) (ak hf ?_))))))))))))));exact hy)
 (by rintro s ae ⟨h,g,v,o,x,n,i,k,rfl,⟨hk,hn,ho⟩,hp⟩;refine⟨(h,g,v,n,i),o,x,k,rfl,hk,trivial,⟨hn.symm,ho⟩,?_⟩;have:=hp _ rfl;rw[of9,mj,<-hn] at this;exact this)
theorem qda:LD X 35 3 (ah (aR 35 3) qlp):=LD.idx (by rfl) (by rfl) (.cons qes (.cons M8 .nil)) (.cons Yk .nil)
 (A:=List aM×List aM×ao) (B:=List aF) (λa o i=>of9 a.1 a.2.1 a.2.2 o i) (λa=>a.1.length) (λa i o=>(a.1.length<=1000000/\a.2.1.length<=1000000)/\o=rZ (a.1.take i) a.2.1 a.2.2)
 (λa x=>x=(.exit 0,⟨84,[(7,.sl 0 0 (rZ a.1 a.2.1 a.2.2).length)],[(0,⟨0,none,nj false (rZ a.1 a.2.1 a.2.2)⟩)]⟩))
 (by
  rintro⟨h,g,v⟩ o i ae h0 bJ bs ⟨hm,ho⟩ hn bw
  try skip
  (rw[<-X8];delta gb re Bo Zt Z9f gj gk gy fQ fR nS ze uh Z8 Z7 Ze ug S1 eH ZcJ qe ZcG Zl Zm rN b9 wx oT vr vq Zh B9 MS xN nf ni oQ sS tX Zx Xf S2 ZcI GH Ka GI M7)
  have jT:o.length<=i.toNat:=by grind [GS]
  have e1:D.nth (h.map cV) i.toNat=cV h[i.toNat]:=az _ _ _ bs;have lu:=GR (g:=g) (x:=v) bs;rw[<-ho] at lu;have dB:=λo' (gK:o'=Ta g v o h[i.toNat])=>hn o' ⟨hm,by rw[lu];exact gK⟩;generalize h[i.toNat]=d at*
  rw[e1];simp only[zaa];have t1:List.take o.length (o.map bC)++[bC d.2]=(o++[d.2]).map bC:=b7 bC o d.2;have c1:(D.aj (D.au (cV d) 0)==v.1&&(D.aj (D.au (cV d) 1)==v.2.1&&true)&&(D.aj (D.au (cV d) 2)==v.2.2&&true))=(d.1==v):=vo d.1 v;refine bF bJ (ak ⟨h0,bJ⟩ (aq (C4 _) (ay (λhx=>ak (by omega) (dB o ?_)) λhx=>ak ⟨h0,bJ⟩ (aq (C4 _) ⟨g,d,rfl,rfl,hm.2,λb hb=> ?_⟩))))
  ·unfold Ta;rw[zap (.inl (by grind))]
  have CK: ¬d.1≠v:=by grind
  refine ay (λHp=>ak (by omega) (dB o ?_)) λED=>ak ⟨h0,bJ⟩ (aq (C4 _) ⟨o,d.2,rfl,rfl,by omega,λb2 cP=>ay (λXj=>ak (by omega) (dB o ?_)) λXk=> ?_⟩)
  ·unfold Ta;rw[hb,zah] at Hp;rw[zap (.inr (.inl Hp))]
  ·unfold Ta;rw[cP,zah] at Xj;rw[zap (.inr (.inr Xj))]
  rw[hb,zaP] at ED;rw[cP,zaP] at Xk;have Xl:Ta g v o d=cq kA o d.2:=by unfold Ta;rw[zan (λhh=>hh.elim CK λhh=>hh.elim ED Xk)]
  simp only[zao,zav,zaD];refine ak ⟨h0,bJ⟩ (aq (C4 _) (aq ?_ (ak (by omega) ⟨h,g,v,o,d.2,o.length+1,i,((o.length+1:Nat):Int)-1,congrArg (λz=>(⟨84,[(0,eI h),(1,eI g),(5,.ref 0 0 0),(7,.sl 1 0 (o.length+1)),(8,iD i),(9,iD (((o.length+1:Nat):Int)-1))],[(0,⟨0,none,wU v⟩),(1,⟨0,none,.arr 27 false z⟩)]⟩:S)) t1,⟨by omega,rfl,by omega⟩,λo' gK=>ak (by omega) (dB o' (by rw[Xl];exact gK))⟩)));rw[zac];exact⟨by simp,cH (by omega) (by omega)⟩)
 (by
  rintro⟨h,g,v⟩ o i ae hi ⟨hm,ho⟩ bw
  try skip
  (rw[<-X8];delta gb re Bo Zt Z9f gj gk gy fQ fR nS ze uh Z8 Z7 Ze ug S1 eH ZcJ qe ZcG Zl Zm rN b9 wx oT vr vq Zh B9 MS xN nf ni oQ sS tX Zx Xf S2 ZcI GH Ka GI M7)
  refine mD (by grind) (bw _ (λh=>by cases h) ?_);rw[ho,zai])
 (by rintro s ae ⟨h,g,v,rfl,hs,hp⟩;refine⟨(h,g,v),[],rfl,⟨hs,rfl⟩,?_⟩;grind)
theorem qlD:FD X 35 qlr:=FD.mk (by rfl) .nil (.cons qda .nil) (by
 intro ps R ae hh;obtain⟨h,g,v,rfl,rfl,hs,hp⟩:=hh
 (rw[<-qlq];delta gb re Bo eH sS Za1 tX Ca gj gk gy fQ fR nS ze Z5 wQ Bu b9 wx oT vr vq ZcK)
 grind)
theorem Yl:LD X 104 13 (ah (aR 104 13) qeX):=LD.idx (by rfl) (by rfl) .nil .nil
 (A:=List cb×List iV×List (List UInt8)×ao×ao×Bool×Int×Int) (B:=Bool) (λa b j=>qhD a.1 a.2.1 a.2.2.1 a.2.2.2.1 a.2.2.2.2.1 b a.2.2.2.2.2.2.1 a.2.2.2.2.2.2.2 j) (λa=>a.2.1.length)
 (λa j b=>a.2.1.length<=1000000/\b=(a.2.2.2.2.2.1 || (a.2.1.take j).any λe=>e.1==a.2.2.2.2.1))
 (λa z=>z=(.exit 4,⟨86,[(0,Ni a.1),(3,.sl 0 0 a.2.1.length),(4,iD a.2.2.2.2.2.2.1),(5,.sl 1 0 a.2.2.1.length),(7,.ref 2 0 0),(8,iD a.2.2.2.2.2.2.2),(9,.ref 3 0 0),(10,.d (.bool (a.2.2.2.2.2.1 ||a.2.1.any λe=>e.1==a.2.2.2.2.1)))],[(0,⟨0,none,yx false a.2.1⟩),(1,⟨0,none,qc4 false a.2.2.1⟩),(2,⟨0,none,wU a.2.2.2.1⟩),(3,⟨0,none,wU a.2.2.2.2.1⟩)]⟩))
 (by
  rintro⟨l,o,p,a,x,h,i,k⟩ b j ae h0 E9 Es ⟨hc,hb⟩ hn bw
  try skip
  (rw[<-Ya];delta fk gj gy Ze gk fQ fR nS Vp Ou wV ZcR Zl Zm Z7z ZL ZcP Zt uh vp Lf Nj oR HK EL Z8 Z7 Zh)
  have e1:D.nth (o.map mx) j.toNat=mx o[j.toNat]:=az _ _ _ Es;have nq:((o.take (j.toNat+1)).any λe=>e.1==x)=((o.take j.toNat).any (λe=>e.1==x)||o[j.toNat].1==x):=by rw[zaf Es,zck,zdd,zdo,zbW]
  rw[e1];generalize o[j.toNat]=e at*
  have c1:(D.aj (D.au (mx e) 0)==x.1&&(D.aj (D.au (mx e) 1)==x.2.1&&true)&&(D.aj (D.au (mx e) 2)==x.2.2&&true))=(e.1==x):=vo e.1 x;rw[c1];refine bF E9 (ay (λHp=>ak (by omega) (hn true ⟨hc,?_⟩)) λED=>ak ⟨h0,E9⟩ (ak (by rw[zaa];exact Es) (aq (qlB _) (ak (by omega) (hn _ ⟨hc,?_⟩)))))
  ·rw[nq,<-zdD,<-hb,Hp];rfl
  rw[nq,<-zdD,<-hb,ED];rfl)
 (by
  rintro⟨l,o,p,a,x,h,i,k⟩ b j ae hj ⟨hc,hb⟩ bw
  try skip
  (rw[<-Ya];delta fk gj gy Ze gk fQ fR nS Vp Ou wV ZcR Zl Zm Z7z ZL ZcP Zt uh vp Lf Nj oR HK EL Z8 Z7 Zh)
  refine mD (by omega) (bw _ (λh=>by cases h) ?_);rw[hb,zai])
 (by rintro s ae ⟨l,o,p,a,x,h,i,k,rfl,hc,hp⟩;refine⟨(l,o,p,a,x,h,i,k),h,rfl,⟨hc,by simp⟩,?_⟩;grind)
theorem Ym:LD X 104 8 (ah (aR 104 8) qeY):=LD.idx (by kernel_rfl) (by kernel_rfl) .nil (.cons Yl .nil)
 (A:=List cb×List iV×List (List UInt8)×cb×Int) (B:=List iV) (λa o k=>X9 a.1 o a.2.2.1 (elA a.2.2.2.1 k.toNat) a.2.2.2.2 k) (λa=>a.2.2.1.length)
 (λa k o=>((0<=a.2.2.2.2/\a.2.2.2.2<a.1.length)/\D.nth (a.1.map mx) a.2.2.2.2.toNat=mx a.2.2.2.1/\a.2.2.1.length<=100000/\a.2.1.length+a.2.2.1.length<=1000000/\(0<=a.2.2.2.1.2.1.2.2/\a.2.2.2.1.2.1.2.2<=1000000000000))/\o=PI a.2.2.2.1 a.2.1 (a.2.2.1.take k))
 (λa z=>z=(.exit 2,el9 a.1 (PI a.2.2.2.1 a.2.1 a.2.2.1) a.2.2.2.2))
 (by
  rintro⟨l,o0,p,r,i⟩ o k ae h0 wc eD ⟨⟨hi,hr,Qm,hl,he⟩,ho⟩ hn bw
  try dsimp only at*
  (rw[<-Yb];delta Zt oR CX gj gk gy fQ fR nS Pe Zl Zm rN Z8 Z7 Zh Ze ZcU Vp Ou wV ZcR fk Z5 Z7F ZcP uh vp Lf Nj HK EL C9 ZcS)
  have gQ:0<=i/\i<((l.map mx).length:Int):=by rw[zaa];exact hi
  have jT:o.length<=o0.length+k.toNat:=by rw[ho];exact GP _ (by omega)
  have nq:=BH (r:=r) (o:=o0) eD;rw[<-ho] at nq;have e1:D.nth (p.map D.str) k.toNat=D.str p[k.toNat]:=az _ _ _ eD;rw[hr];have hx:(r.2.1.1,r.2.1.2.1,r.2.1.2.2+k)=Ch r k.toNat:=by unfold Ch;rw[Int.toNat_of_nonneg h0]
  have c3:D.aj (D.au (mx r) 3)=r.2.1.1:=rfl;have c4:D.aj (D.au (mx r) 4)=r.2.1.2.1:=rfl;have c5:D.aj (D.au (mx r) 5)=r.2.1.2.2:=rfl;rw[c3,c4,c5];have c1:(r.2.1.1==(0:Int)&&(r.2.1.2.1==(0:Int)&&true)&&(r.2.1.2.2+k==(0:Int)&&true))=(Ch r k.toNat==aA):=by rw[<-hx];exact vo (r.2.1.1,r.2.1.2.1,r.2.1.2.2+k) aA
  rw[c1];have ha:elA r (k+1).toNat=Ch r k.toNat:=by rw[show(k+1).toNat=k.toNat+1 by omega];rfl
  have hn: ∀o',o'=X3 o (Ch r k.toNat) (elA r k.toNat) p[k.toNat]->ae (.normal,X9 l o' p (Ch r k.toNat) i (k+1)):=λo' h=>by have:=hn o' ⟨⟨hi,hr,Qm,hl,he⟩,by rw[nq];exact h⟩;rw[ha] at this;exact this
  generalize elA r k.toNat=a at*
  refine bF wc (ak gQ (aq (Yi _) (ak gQ (aq (Yi _) (ak (by omega) ⟨l,o,p,a,Ch r k.toNat,Ch r k.toNat==aA,i,k,by rw[<-hx],by omega,λb hb=>ay (λED=> ?_) λHp=> ?_⟩)))))
  ·have hs:X3 o (Ch r k.toNat) a p[k.toNat]=o++[(Ch r k.toNat,a,p[k.toNat])]:=by
    unfold X3;refine zan λh=> ?_;rw[zbv,hb,zc1] at ED;rcases h with h |h
    ·rw[h] at ED;simp at ED
    rw[h] at ED;simp at ED
   have hy:=hn _ hs.symm;rw[e1];have t2:D.agg [D.int .i64 (Ch r k.toNat).1,D.int .i64 (Ch r k.toNat).2.1,D.int .i64 (Ch r k.toNat).2.2,D.int .i64 a.1,D.int .i64 a.2.1,D.int .i64 a.2.2,D.str (D.cJ (D.str p[k.toNat]))]=mx (Ch r k.toNat,a,p[k.toNat]):=rfl;rw[t2,b7];simp only[X9,zaj] at hy;refine ak ⟨h0,wc⟩ (ak (by rw[zaa];exact eD) (aq (qon _) (aq (eF rfl (by rw[zaa]) (by omega) (by decide)) (ak (by omega) ?_))));exact hy
  have hs:X3 o (Ch r k.toNat) a p[k.toNat]=o:=by unfold X3;refine zap ?_;rw[Bool.not_eq_false',hb,za8,za1] at Hp;exact Hp
  exact ak (by omega) (hn _ hs.symm))
 (by
  rintro⟨l,o0,p,r,i⟩ o k ae hk ⟨⟨hi,hr,Qm,hl,he⟩,ho⟩ bw
  try dsimp only at*
  (rw[<-Yb];delta Zt oR CX gj gk gy fQ fR nS Pe Zl Zm rN Z8 Z7 Zh Ze ZcU Vp Ou wV ZcR fk Z5 Z7F ZcP uh vp Lf Nj HK EL C9 ZcS)
  refine mD (by omega) (bw _ (λh=>by cases h) ?_);rw[ho,zai])
 (by rintro s ae ⟨l,o,p,r,i,rfl,hc,hr,hp⟩;refine⟨(l,o,p,r,i),o,rfl,⟨⟨⟨hc.1,hc.2.1⟩,hr,hc.2.2.2.1,hc.2.2.2.2.1,hc.2.2.2.2.2⟩,by simp[PI]⟩,?_⟩;rintro z rfl;exact hp _ rfl)
theorem qdb:LD X 104 3 (ah (aR 104 3) qls):=LD.idx (by kernel_rfl) (by kernel_rfl) (.cons JE .nil) (.cons Ym .nil)
 (A:=List cb) (B:=List iV) (λl o i=>el9 l o i) (λl=>l.length)
 (λl i o=>nN l/\o=Kl (l.take i))
 (λl z=>z=(.exit 0,⟨86,[(3,.sl 0 0 (Kl l).length)],[(0,⟨0,none,yx false (Kl l)⟩)]⟩))
 (by
  rintro l o i ae h0 bJ bs ⟨hc,ho⟩ hn bw
  try dsimp only at*
  (rw[<-Yc];delta Vp Ou Nj Vq Ze C9 ZcW Z1Y wV Z5 wQ vp Lf Bu Zt oR HK EL Zl Zm wH Z8 Z7 Zh ZcV Vr sI KV Zx pU ZcS)
  have e1:D.nth (l.map mx) i.toNat=mx l[i.toNat]:=az _ _ _ bs;have nq:=BI bs;rw[<-ho] at nq;have h1:=zk (l:=l) i.toNat (by omega);rw[<-ho] at h1;have h2:=EK bs;have h3:=X4 l (i.toNat+1);have h4:=hc.2.1;have hl1:=hc.1;have h5:=hc.2.2 _ (zas bs);have h6:=BL l[i.toNat].2.2;have gQ:0<=i/\i<((l.map mx).length:Int):=by rw[zaa];exact⟨h0,bJ⟩
  rw[e1];generalize l[i.toNat]=r at*
  have hn: ∀o',o'=elR o r->ae (.normal,el9 l o' (i+1)):=λo' h=>hn o' ⟨hc,by rw[nq];exact h⟩;have sq: ∀p,p=rj r.2.2->0<=i/\i<(l.length:Int)/\l.length<=1000000/\p.length<=100000/\o.length+p.length<=1000000/\(0<=r.2.1.2.2/\r.2.1.2.2<=1000000000000):=λp hp=>by subst hp;exact⟨h0,bJ,hc.1,by omega,by omega,h5.2⟩
  refine bF gQ.2 (ak gQ (aq (Yi _) ⟨r.2.2,rfl,rfl,by omega,λhv=>ak gQ (aq (Yi _) ?_),λhv p hp=>ak gQ (aq (Yi _) ?_)⟩))
  ·have hp:[]=rj r.2.2:=by unfold rj;rw[hv];rfl
   exact⟨l,o,[],r,i,rfl,sq _ hp,e1,λo' gK=>ak (by omega) (hn o' (by rw[gK];unfold elR;rw[<-hp]))⟩
  have hp:p=rj r.2.2:=by unfold rj;rw[hv,zap rfl];exact hp
  exact⟨l,o,p,r,i,rfl,sq _ hp,e1,λo' gK=>ak (by omega) (hn o' (by rw[gK];unfold elR;rw[<-hp]))⟩)
 (by
  rintro l o i ae hi ⟨hc,ho⟩ bw
  try dsimp only at*
  (rw[<-Yc];delta Vp Ou Nj Vq Ze C9 ZcW Z1Y wV Z5 wQ vp Lf Bu Zt oR HK EL Zl Zm wH Z8 Z7 Zh ZcV Vr sI KV Zx pU ZcS)
  refine mD (by rw[zaa];omega) (bw _ (λh=>by cases h) ?_);rw[ho,zai])
 (by rintro s ae ⟨l,rfl,hc,hp⟩;refine⟨l,[],rfl,⟨hc,rfl⟩,?_⟩;rintro z rfl;exact hp _ rfl)
theorem qlE:FD X 104 qlu:=FD.mk (by kernel_rfl) .nil (.cons qdb .nil) (by
 intro ps R ae hh;obtain⟨l,rfl,rfl,hs,hp⟩:=hh
 (rw[<-qlt];delta wV Z5 Ry ZN Wq EL ZcX)
 exact⟨l,rfl,hs,λo ho=>hp o ho⟩)
theorem Yn:LD X 66 8 (ah (aR 66 8) qeZ):=LD.ins (by kernel_rfl) (by kernel_rfl) (.cons oA .nil) .nil
 (A:=List iV×Nat×Int) (α:=ao) (λa o k=>qc7 a.1 o a.2.1 a.2.2 k) fc (λa=>a.2.1) (λ_=>True) (λa o=>(.exit 2,⟨64,[(5,.sl 0 0 a.1.length),(6,.sl 1 0 a.2.1),(7,iD a.2.2)],[(0,⟨0,none,yx false a.1⟩),(1,⟨0,none,fm false o⟩)]⟩)) (λ_ _ h=>by cases h)
 (by
  rintro⟨l,n,i⟩ o k ae _ h0 Hx jT hk hz bI dV
  try dsimp only at*
  subst Hx
  (rw[<-qhE];delta dW sL ZcZ wV Zt qo M3 ZcY Zd0 Ze BV BW A4 xH Za Z4A Z9y Z9A Zs W4 Zx ZE ZZ Z9D SI kU Z9x zg Z8 Z7 Z9 q9 J0 ke Zr)
  refine dY (λhp=> ?_) λhp=>hz (by omega);have fU:k.toNat-1<o.length:=by omega
  have ek:(k-1).toNat=k.toNat-1:=by omega
  have e1:D.nth (o.map aL) k.toNat=aL o[k.toNat]:=az _ _ _ hk;have e2:D.nth (o.map aL) (k.toNat-1)=aL o[k.toNat-1]:=az _ _ _ fU;have bI:=bI hp;have dV:=dV hp;have Bx:=lq aL o k.toNat o[k.toNat] o[k.toNat-1];have e3: ∀z,D.nth ((o.map aL).set k.toNat z) (k.toNat-1)=aL o[k.toNat-1]:=λz=>by unfold D.nth;rw[zab,zbc (by omega)];simp[fU]
  rw[ek,e1,e2];simp only[e3];generalize o[k.toNat]=x at*
  generalize o[k.toNat-1]=y at*
  simp only[zaa,zbp] at dV⊢;have By:0<=k/\k<(o.length:Int):=⟨h0,by omega⟩
  have Bz:0<=k-1/\k-1<(o.length:Int):=⟨by omega,by omega⟩
  have hf:(-9223372036854775808:Int)<=k-1/\k-1<=9223372036854775807:=by omega
  refine ak By (ak hk (aq (ga _) (ak hf (ak Bz (ak fU (aq (ga _) ⟨(x).1,(x).2.1,(x).2.2,(y).1,(y).2.1,(y).2.2,rfl,rfl,dY (λh=> ?_) λh=>bI (by rw[<-za6];exact λh2=>h ((ff (x) (y)).2 h2))⟩))))));have hy:=dV ((ff (x) (y)).1 h);simp only[qc7,fm] at hy;rw[<-Bx] at hy;refine ak hf (ak hf (ak Bz (ak fU (aq (ga _) (ak By (ak hk (aq (ga _) (ak By (ak hk (aq (ga _) (ak Bz (ak fU (aq (ga _) (ak hf ?_))))))))))))));exact hy)
 (by rintro s ae ⟨l,o,x,n,i,k,rfl,⟨hk,hn,ho⟩,hp⟩;refine⟨(l,n,i),o,x,k,rfl,hk,trivial,⟨hn.symm,ho⟩,?_⟩;have:=hp _ rfl;rw[es9,mj,<-hn] at this;exact this)
theorem qdc:LD X 66 4 (ah (aR 66 4) qlv):=LD.idx (by kernel_rfl) (by kernel_rfl) .nil (.cons Yn .nil)
 (A:=List iV) (B:=List ao) (λl o i=>es9 l o i) (λl=>l.length) (λl i o=>l.length<=1000000/\o=bT fc ((l.take i).map (·.1)))
 (λl x=>x=(.exit 0,⟨64,[(6,.sl 0 0 (bT fc (l.map (·.1))).length)],[(0,⟨0,none,fm false (bT fc (l.map (·.1)))⟩)]⟩))
 (by
  rintro l o i ae h0 bJ bs ⟨hm,ho⟩ hn bw
  try dsimp only at*
  (rw[<-Yd];delta dW sL vP dH pJ ZcZ Zl Zm ZJ Z8 Z7 Zh j8 ky Z9K Zt uh M3 SF wV qo ZcY Ze Zd1 Zd2 kU)
  have jT:o.length<=i.toNat:=by rw[ho,oF,zaa,zau];exact Nat.min_le_left _ _
  have e1:D.nth (l.map mx) i.toNat=mx l[i.toNat]:=az _ _ _ bs;have lu:bT fc ((l.take (i.toNat+1)).map (·.1))=cq fc o l[i.toNat].1:=by rw[zaf bs,zaC,zdf,Bm,ho]
  have dB:=λo' (gK:o'=cq fc o l[i.toNat].1)=>hn o' ⟨hm,by rw[lu];exact gK⟩;generalize l[i.toNat]=d at*
  rw[e1];have t1:List.take o.length (o.map aL)++[aL d.1]=(o++[d.1]).map aL:=b7 aL o d.1;simp only[zaa,zao,zav,zaD];refine bF bJ (ak ⟨h0,bJ⟩ (ak bs (aq (qlB _) (aq ?_ (ak (by omega) ⟨l,o,d.1,o.length+1,i,((o.length+1:Nat):Int)-1,congrArg (λz=>(⟨64,[(5,.sl 0 0 l.length),(6,.sl 1 0 (o.length+1)),(7,iD i),(8,iD (((o.length+1:Nat):Int)-1))],[(0,⟨0,none,yx false l⟩),(1,⟨0,none,.arr 49 false z⟩)]⟩:S)) t1,⟨by omega,rfl,by omega⟩,λo' gK=>ak (by omega) (dB o' gK)⟩)))));rw[zac];exact⟨by simp,cH (by omega) (by omega)⟩)
 (by
  rintro l o i ae hi ⟨hm,ho⟩ bw
  try dsimp only at*
  (rw[<-Yd];delta dW sL vP dH pJ ZcZ Zl Zm ZJ Z8 Z7 Zh j8 ky Z9K Zt uh M3 SF wV qo ZcY Ze Zd1 Zd2 kU)
  refine mD (by omega) (bw _ (λh=>by cases h) ?_);rw[ho,zai])
 (by rintro s ae ⟨l,rfl,hs,hp⟩;refine⟨l,[],rfl,⟨hs,rfl⟩,?_⟩;rintro x rfl;exact hp _ rfl)
theorem qlF:FD X 66 qlx:=FD.mk (by kernel_rfl) (.cons qlC (.cons qlE .nil)) (.cons qdc .nil) (by
 intro ps R ae hh;obtain⟨l,x,rfl,rfl,⟨hs,h2,hr⟩,hp⟩:=hh
 (rw[<-qlw];delta dW sL vP dH pJ S3 tO wV Z5 ZW Bu Z9g ZcY Zd3 fS mM ZcE Zx gj gk gy fQ fR gS gA gF)
 refine⟨l,x,rfl,rfl,⟨hs,h2⟩,λr vK=>⟨r,by rw[zak (by simp)],rfl,by rw[vK];exact hr,λo ho=>⟨o,rfl,?_,λo' gK=>hp o' ?_⟩⟩⟩
 ·have:=zk (l:=r) _ (zal _);rw[zai,<-ho] at this;have:=hr.2.1;rw[<-vK] at this;omega
 rw[gK,ho,vK];rfl)
end
structure cN where
 what:Int
 r:Int
 a:Int
 b:Int
 c:Int
 see:Bool
abbrev uE(n:Int):D:= .int .u8 n
def yy(x:cN):D:= .agg [uE x.what,uE x.r,uE x.a,uE x.b,uE x.c,.bool x.see]
structure GU(x:cN):Prop where
 what:0<=x.what/\x.what<=255
 r:0<=x.r/\x.r<=255
 a:0<=x.a/\x.a<=255
 b:0<=x.b/\x.b<=255
 c:0<=x.c/\x.c<=255
def wD(l:List ar)(K:List (List Int)):D:= .agg [.sl 7 (l.map bZ),.sl 1 (K.map λv=> .sl 1 (bt v))]
def qe5:a8:=λps R ae=> ∃l n,ps=[ct l,.d (uE n)]/\R=[]/\(l.length<=1000000/\0<=n/\n<=255)/\ ∀y,(y=aA\/y∈l)->ae (.d (aL y),[])
def Zdn x o:=Int.tmod (cN.b x) (ky o)+(1:Int)+Int.tmod (cN.c x) (3:Int)
def Zdi x:=decide (Z7<=cN.c x/\cN.c x<=Z8)
def Zdm(ae:P×List (Nat×En)->Prop):=ae (P.dz (P.d (D.agg (Z5::Z5::Z5::Z5::Z4c))::Rh),[])
def Zdo l y ae x:= ∃Da bm,gF l::gA y=gF Da::gA bm/\Zx/\(mM Da/\dx Da<=1000/\nN (fN Da bm))/\ ∀o,o=Nh Da bm->bif Z3M y then Zdm ae else bif ky o==(0:Int) then Zdm ae else ob (decide (Z7<=cN.b x/\cN.b x<=Z8)) (ob (!decide (ky o=(0:Int))) (ob (decide (Z7<=Int.tmod (cN.b x) (ky o)+(1:Int)/\Int.tmod (cN.b x) (ky o)+(1:Int)<=Z8)) (ob (Zdi x) (ob (decide (Z7<=Zdn x o/\Zdn x o<=Z8)) (ob (decide ((0:Int)<=min (ky o) (Zdn x o)/\min (ky o) (Zdn x o)<=ky o)) (ob (decide ((0:Int)<=Int.tmod (cN.b x) (ky o)/\Int.tmod (cN.b x) (ky o)<=(↑(Int.toNat (min (ky o) (Zdn x o))):Int))) (ae (P.dz (P.d (D.agg [D.int .i64 (4:Int),fR y,fQ y,gk y,Z5,Z5,Z5,oP,Z2,Rs,Z5,Z5,Z5,Z5,Z5,Z5,oP,D.sl 3 (List.take (Int.toNat (min (ky o) (Zdn x o))-Int.toNat (Int.tmod (cN.b x) (ky o))) (List.drop (Int.toNat (Int.tmod (cN.b x) (ky o))) (dW o)))])::Ot),[]))))))))
def Zdh y:=[P.d (D.bool !Z3M y)]
def Zdj x:=Int.tmod (cN.c x) (5:Int)+(1:Int)
def Zdk x:=Zdj x+Int.tmod (cN.c x) (2:Int)
def Zdc y (xR:List ao):=y=aA\/y∈xR
def Zdb xR n:=j8 xR/\(0:Int)<=n/\n<=(255:Int)
def Zdl x l y (ae:P×List (Nat×En)->Prop) s:=ob (Zdi x) (∃Da bm,gF l::gA y=gF Da::gA bm/\Zx/\(mM Da/\dx Da<=1000/\nN (fN Da bm))/\ ∀o,o=Nh Da bm-> ∃l n,[R7 o,P.d (D.int .u8 (cN.b x))]=[gR l,P.d (D.int .u8 n)]/\Zx/\Zdb l n/\ ∀Ov,Zdc Ov l->ob (decide (Z7<=Zdj x/\Zdj x<=Z8)) (ob (Zdi x) (ob (decide (Z7<=Zdk x/\Zdk x<=Z8)) (ob (decide ((0:Int)<=Zdk x/\Zdk x<=(6:Int))) (ob (decide ((0:Int)<=Int.tmod (cN.c x) (5:Int)/\Int.tmod (cN.c x) (5:Int)<=(↑(Int.toNat (Zdk x)):Int))) (ae (P.dz (P.d (D.agg (D.int .i64 (3:Int)::fR y::fQ y::gk y::Z5::Z5::Z5::oP::Z2::Rs::fR Ov::fQ Ov::gk Ov::ni s::nf s::Z5::D.str (List.drop (Int.toNat (Int.tmod (cN.c x) (5:Int))) (List.take (Int.toNat (Zdk x)) [(117:UInt8),(118:UInt8),(119:UInt8),(120:UInt8),(121:UInt8),(122:UInt8)]))::Z40))::Zdh y),[])))))))
def Zd9 x:=IntKind.wrap IntKind.u8 (Int.tmod (cN.b x) (3:Int)+(1:Int))
def Zde x:=D.str (List.drop (Int.toNat (Int.tmod (cN.b x) (3:Int))) (List.take (Int.toNat (Zd9 x)) [(97:UInt8),(98:UInt8),(99:UInt8)]))
def Zdg y x:=fR y::fQ y::gk y::Zde x::Z2::Rs::VJ
def Yo x:=Int.tmod (cN.what x) (8:Int)
def Zdf o x:=[R7 o,P.d (D.int .u8 (cN.a x))]
theorem qoo l s x ae:(∃av b,gF l::Ot=[gF av,fk b]/\Zx/\ZcE av/\ ∀o,o=vC b av-> ∃nk b,gF l::Rh=[gF nk,fk b]/\Zx/\ZcE nk/\ ∀bq,bq=vC b nk->ob (decide ((0:Int)<=Zd9 x/\Zd9 x<=(3:Int))) (ob (decide ((0:Int)<=Int.tmod (cN.b x) (3:Int)/\Int.tmod (cN.b x) (3:Int)<=(↑(Int.toNat (Zd9 x)):Int))) (∃xR n,Zdf bq x=[gR xR,P.d (D.int .u8 n)]/\Zx/\Zdb xR n/\ ∀y,Zdc y xR->bif Yo x==(0:Int) then∃l n,Zdf o x=[gR l,P.d (D.int .u8 n)]/\Zx/\Zdb l n/\ ∀y,Zdc y l->ae (P.dz (P.d (D.agg (Z5::ni s::nf s::Z5::fR y::fQ y::gk y::Zde x::D.bool true::Rs::VJ))::Ot),[]) else bif Yo x==(1:Int) then∃l n,Zdf o x=[gR l,P.d (D.int .u8 n)]/\Zx/\Zdb l n/\ ∀y,Zdc y l->ae (P.dz (P.d (D.agg (Z5::ni s::nf s::Z5::Zdg y x))::Ot),[]) else bif Yo x==(2:Int) then∃a b,[R7 bq,R7 o]=[gR a,gR b]/\Zx/\(j8 a/\j8 b)/\ ∀o_2,o_2=a++b-> ∃l n,[R7 o_2,P.d (D.int .u8 (cN.c x))]=[gR l,P.d (D.int .u8 n)]/\Zx/\Zdb l n/\ ∀y,Zdc y l-> ∃l n,Zdf o x=[gR l,P.d (D.int .u8 n)]/\Zx/\Zdb l n/\ ∀Ov,Zdc Ov l->ae (P.dz (P.d (D.agg (ZO::fR y::fQ y::gk y::Zdg Ov x))::Zdh y),[]) else bif Yo x==(3:Int) then∃a b,[R7 bq,R7 o]=[gR a,gR b]/\Zx/\(j8 a/\j8 b)/\ ∀o,o=a++b-> ∃Da n,[R7 o,P.d (D.int .u8 (cN.c x))]=[gR Da,P.d (D.int .u8 n)]/\Zx/\Zdb Da n/\ ∀y,Zdc y Da-> ∃l_5,yw l=yw l_5/\Zx/\SmS l_5/\ ∀o t p x,o=c8 l_5->t=ml o (aJ l_5)->p=XM (aJ l_5) t->x=qlc (aJ l_5) t-> ∃h g x,P.d (D.sl 5 (List.map cV (Tl.h t)))::P.d (D.sl 5 (List.map cV (Tl.g t)))::gA y=oT h::oT g::gA x/\Zx/\(tX h/\tX g)/\ ∀o,o=rZ h g x->ae (P.dz (P.d (D.agg (Z1I::fR y::fQ y::gk y::Z5::Z5::Z5::oP::Z2::Zc3 o::VJ))::Zdh y),[]) else bif Yo x==(4:Int) then bif Yo x==(4:Int) then Zdl x l y ae s else Zdo l y ae x else bif Yo x==(5:Int) then Zdl x l y ae s else Zdo l y ae x)))=(aI [(20,qlz),(65,qe5),(19,hJn),(28,qeO),(35,qlr),(66,qlx)] [] 41 [dw l,.d (bC s),.d (yy x)] []) ae:=by kernel_rfl
def Zdp l (n:Int) c:=D.nth (dW l) (Int.toNat (Int.tmod n (c+(1:Int))))
theorem qhH l n ae:(ob (decide (Z7<=n/\n<=Z8)) (∀c,c=uU l->ob (Zh c) (ob (!decide (c+(1:Int)=(0:Int))) (bif Int.tmod n (c+(1:Int))==uU l then ae (P.d (D.agg [Z5,Z5,Z5]),[]) else ob (decide ((0:Int)<=Int.tmod n (c+(1:Int))/\Int.tmod n (c+(1:Int))<uU l)) (ob (bO PR (49:TypeId) (Zdp l n c)) (ae (P.d (D.agg [D.int .i64 (D.aj (D.au (Zdp l n c) 0)),D.int .i64 (D.aj (D.au (Zdp l n c) 1)),D.int .i64 (D.aj (D.au (Zdp l n c) 2))]),[])))))))=(aI [] [] 65 [ct l,.d (uE n)] []) ae:=by kernel_rfl
def qlG:a8:=λps R ae=> ∃i l v r x,ps=[dw (aP l v),.d (bC (fg l v r)),.d (yy x)]/\R=[]/\(bG i l/\(0<=i/\i<=100)/\GU x)/\ ∀o (b:Bool),(b=true->OpW l v r o)->ae (.dz [.d (eT o),.d (.bool b)],[])
abbrev arV(z:Bool)(l:List (List Int)):Obj:= .arr 28 z (l.map λv=> .sl 1 (bt v))
abbrev bxW(l:List ar)(K:List (List Int)):Obj:= .box 57 [dw l,.d (.sl 1 (K.map λv=> .sl 1 (bt v)))]
abbrev qhI(x:cN):Obj:= .box 60 [.d (uE x.what),.d (uE x.r),.d (uE x.a),.d (uE x.b),.d (uE x.c),.d (.bool x.see)]
abbrev dn5(l:List ar)(K:List (List Int))(x:cN)(r:Int)(v:List Int)(i:Int):S:=⟨120,[(2,.ref 0 0 0),(3,.ref 1 0 0),(4,.ref 2 0 0),(5,iD r),(6,vD v),(7,iD i)],[(0,⟨0,none,bxW l K⟩),(1,⟨0,none,qhI x⟩),(2,⟨0,none,.box 57 [.sl 3 0 0,.sl 4 0 0]⟩),(3,⟨0,none,pW false []⟩),(4,⟨0,none,arV false []⟩)]⟩
def HL K:=List.map (λv=>D.sl 1 (bt v)) K
def Tc l K:=(0,En.mk 0 none (Obj.box (57:TypeId) [gF l,P.d (D.sl 1 (HL K))]))
def Zds l K x:=[Tc l K,(1,En.mk 0 none (Obj.box (60:TypeId) [P.d (D.int .u8 (cN.what x)),P.d (D.int .u8 (cN.r x)),P.d (D.int .u8 (cN.a x)),P.d (D.int .u8 (cN.b x)),P.d (D.int .u8 (cN.c x)),P.d (D.bool (cN.see x))])),(2,En.mk 0 none (Obj.box (57:TypeId) [P.sl 3 0 0,P.sl 4 0 0])),(3,SO),(4,En.mk 0 none (Obj.arr (28:TypeId) false []))]
theorem qe6 l K x r v i ae:(bif decide (i<(↑(List.length (HL K)):Int)) then ob (decide ((0:Int)<=i/\i<(↑(List.length (HL K)):Int))) (ob (bO PR (28:TypeId) (D.nth (HL K) (Ze i))) (∃dC w,[Zi v,P.d (D.sl 1 (D.gW (D.nth (HL K) (Ze i))))]=Zi dC::ZR w/\Zx/\(j7 dC/\j7 w)/\ob (Zh i) (ae (PX.normal,S.mk 120 (JJ::rJ::(4,vp)::C5 r::(6,P.d (D.sl 1 (bt (nJ dC w))))::ZJ i) (Zds l K x))))) else ae (PX.exit 0,S.mk 120 [JJ,rJ,(4,vp),C5 r,(6,Zi v)] (Zds l K x)))=(aD [(38,U7)] [] 23 5 (dn5 l K x r v i)) ae:=by kernel_rfl
def mgA v (K:List (List Int)):=K.foldl nJ v
def Nn v (K:List (List Int)):=K.length<=1000/\cT v=true/\ ∀w∈K,cT w=true
def qlH:S->K (PX×S):=λs ae=> ∃l K x r v,s=dn5 l K x r v 0/\Nn v K/\ ∀w,w=mgA v K->ae (.exit 0,⟨120,[(2,.ref 0 0 0),(3,.ref 1 0 0),(4,.ref 2 0 0),(5,iD r),(6,vD w)],[(0,⟨0,none,bxW l K⟩),(1,⟨0,none,qhI x⟩),(2,⟨0,none,.box 57 [.sl 3 0 0,.sl 4 0 0]⟩),(3,⟨0,none,pW false []⟩),(4,⟨0,none,arV false []⟩)]⟩)
def Yp x:=(1:Int)+Int.tmod (cN.r x) (3:Int)
def Zdv x:=Int.toNat (Yp x-(1:Int))
def Sf sT:=[]++HL sT
def ZdD sT:=0+List.length (HL sT)
def ZdV K x w:=[D.sl 1 (List.take (ZdD K) (List.set (Sf K) (Zdv x) (D.aT (D.sl 1 (D.gW (D.nth (Sf K) (Zdv x)))) [D.sl 1 (bt w)])))]
def ZdU x K:=decide ((0:Int)<=Yp x-(1:Int)/\Yp x-(1:Int)<(↑(ZdD K):Int))
def ZdR o:=[Z5,Z5,D.sl 18 [Gh o]]
def Yq x:=[P.d (D.agg [D.int .u8 (cN.what x),D.int .u8 (cN.r x),D.int .u8 (cN.a x),D.int .u8 (cN.b x),D.int .u8 (cN.c x),D.bool (cN.see x)])]
def ZdO sT r DY:=[D.sl 1 (List.take (ZdD sT) (List.set (Sf sT) (Za r) (D.aT (D.sl 1 (D.gW (D.nth (Sf sT) (Za r)))) [D.sl 1 (bt DY)])))]
def ZdI av:=[]++List.map bZ av
def ZdN av:=List.take (0+iu av) (ZdI av)
def ZdL:=[D.sl 18 []]
def ZdA o bm:=D.nth (List.map bZ o) (Int.toNat (Int.tmod (cN.a bm) (r4 o)))
def ZdM o bm:=D.int .i64 (D.aj (D.au (ZdA o bm) 0))::D.int .i64 (D.aj (D.au (ZdA o bm) 1))::ZdL
def ZdJ av:=Nat.ble (0+iu av) (List.length (ZdI av))
def ZdH av:=Nat.ble 0 0&&aG (0+iu av) 88
def ZdF r sT:=decide ((0:Int)<=r-(1:Int)/\r-(1:Int)<(↑(ZdD sT):Int))
def ZdE sT:=Nat.ble 0 0&&aG (ZdD sT) 24
def ZdC v Jq:=SK v/\(1:Int)<=Jq/\Jq<=(16:Int)
def Ks l fK:=D.int .i64 (eV l fK+(1:Int))
def Zdz bm o:=decide ((0:Int)<=Int.tmod (cN.a bm) (r4 o)/\Int.tmod (cN.a bm) (r4 o)<r4 o)
def Zdy bm:=decide (Z7<=cN.a bm/\cN.a bm<=Z8)
def Te av sT:=P.d (D.agg [D.sl 7 (List.map bZ av),D.sl 1 (HL sT)])
def Zdw l fK:=decide (Z7<=eV l fK+(1:Int)/\eV l fK+(1:Int)<=Z8)
def Tf K x:=D.sl 1 (D.gW (D.nth (HL K) (Zdv x)))
def Tj x:=D.int .i64 (Yp x)
def Zdu x:=decide (Z7<=Yp x-(1:Int)/\Yp x-(1:Int)<=Z8)
theorem qop l K x ae:(ob (decide (Z7<=cN.r x/\cN.r x<=Z8)) (ob (decide (Z7<=Yp x/\Yp x<=Z8)) (ob (Zdu x) (ob (decide ((0:Int)<=Yp x-(1:Int)/\Yp x-(1:Int)<(↑(List.length (HL K)):Int))) (ob (bO PR (28:TypeId) (D.nth (HL K) (Zdv x))) (bif cN.see x then∃av sT bm r v,S.mk 120 (JJ::rJ::(4,vp)::(5,P.d (Tj x))::(6,P.d (Tf K x))::ZW) (Zds l K x)=S.mk 120 (JJ::rJ::(4,vp)::C5 r::(6,Zi v)::ZW) (Zds av sT bm)/\Nn v sT/\ ∀w,w=mgA v sT-> ∃l v,gF av::ZR w=gF l::ZR v/\Zx/\(mM l/\SK v)/\ ∀o,o=aP l v-> ∃l fK,Zi w::Zv r=Zi l::Zv fK/\Zx/\Zz l/\ob (Zdw l fK) (∃nk,Zc6 o=yw nk/\Zx/\mM nk/\ ∀t,t=gE nk->ob (Zh t) (bif Yo bm==(7:Int) then bif r4 o==(0:Int) then ae (Te av sT,[]) else ob (Zdy bm) (ob (!decide (r4 o=(0:Int))) (ob (Zdz bm o) (ob (decide (Int.toNat (Int.tmod (cN.a bm) (r4 o))<iu o)) (ob (bO PR (31:TypeId) (ZdA o bm)) (∃v Jq n,[Zi w,P.d (Zt r),P.d (Ks l fK)]=Zi v::P.d (Zt Jq)::Zv n/\Zx/\ZdC v Jq/\ ∀DY,DY=bx (il v Jq n)->ob (ZdE sT) (ob (Z9 r) (ob (ZdF r sT) (ob (decide (Za r<List.length (Sf sT))) (ob (bO PR (28:TypeId) (D.nth (Sf sT) (Za r))) (ob (ZdH av) (ob (ZdJ av&&aG (0+iu av+List.length [D.agg (Zl t::Zt r::Ks l fK::D.sl 1 (bt w)::ZdM o bm)]) 88) (ae (P.d (D.agg (D.sl 7 (List.take (0+iu av+List.length [D.agg (Zl t::Zt r::Ks l fK::D.sl 1 (bt w)::ZdM o bm)]) (ZdN av++[D.agg (Zl t::Zt r::Ks l fK::D.sl 1 (bt w)::ZdM o bm)]))::ZdO sT r DY)),[]))))))))))))) else∃i xR v Jq x,P.d (D.sl 7 (Ld o))::P.d (D.agg (Zl t::ZE r))::Yq bm=P.d (D.sl 7 (List.map bZ (aP xR v)))::P.d (D.agg [D.int .i64 (Prod.fst (fg xR v Jq)),D.int .i64 (Prod.snd (fg xR v Jq))])::Yq x/\Zx/\(bG i xR/\((0:Int)<=i/\i<=(100:Int))/\GU x)/\ ∀o b,(b=true->OpW xR v Jq o)->bif !b then ae (Te av sT,[]) else∃v r_3 n,[Zi w,P.d (Zt r),P.d (Ks l fK)]=Zi v::P.d (Zt r_3)::Zv n/\Zx/\ZdC v r_3/\ ∀DY,DY=bx (il v r_3 n)->ob (ZdE sT) (ob (Z9 r) (ob (ZdF r sT) (ob (decide (Za r<List.length (Sf sT))) (ob (bO PR (28:TypeId) (D.nth (Sf sT) (Za r))) (ob (ZdH av) (ob (ZdJ av&&aG (0+iu av+List.length [D.agg (Zl t::Zt r::Ks l fK::D.sl 1 (bt w)::ZdR o)]) 88) (ae (P.d (D.agg (D.sl 7 (List.take (0+iu av+List.length [D.agg (Zl t::Zt r::Ks l fK::D.sl 1 (bt w)::ZdR o)]) (ZdN av++[D.agg (Zl t::Zt r::Ks l fK::D.sl 1 (bt w)::ZdR o)]))::ZdO sT r DY)),[])))))))))) else∃av v,[gF l,P.d (Tf K x)]=gF av::ZR v/\Zx/\(mM av/\SK v)/\ ∀o,o=aP av v-> ∃nk r,[P.d (Tf K x),P.d (Tj x)]=Zi nk::Zv r/\Zx/\Zz nk/\ob (Zdw nk r) (∃xR,Zc6 o=yw xR/\Zx/\mM xR/\ ∀t,t=gE xR->ob (Zh t) (bif Yo x==(7:Int) then bif r4 o==(0:Int) then ae (Te l K,[]) else ob (Zdy x) (ob (!decide (r4 o=(0:Int))) (ob (Zdz x o) (ob (decide (Int.toNat (Int.tmod (cN.a x) (r4 o))<iu o)) (ob (bO PR (31:TypeId) (ZdA o x)) (∃v fK n,[P.d (Tf K x),P.d (Tj x),P.d (Ks nk r)]=Zi v::P.d (Zt fK)::Zv n/\Zx/\ZdC v fK/\ ∀w,w=bx (il v fK n)->ob (ZdE K) (ob (Zdu x) (ob (ZdU x K) (ob (decide (Zdv x<List.length (Sf K))) (ob (bO PR (28:TypeId) (D.nth (Sf K) (Zdv x))) (ob (ZdH l) (ob (ZdJ l&&aG (0+iu l+List.length [D.agg (Zl t::Tj x::Ks nk r::Tf K x::ZdM o x)]) 88) (ae (P.d (D.agg (D.sl 7 (List.take (0+iu l+List.length [D.agg (Zl t::Tj x::Ks nk r::Tf K x::ZdM o x)]) (ZdN l++[D.agg (Zl t::Tj x::Ks nk r::Tf K x::ZdM o x)]))::ZdV K x w)),[]))))))))))))) else∃i Da v fK bm,P.d (D.sl 7 (Ld o))::P.d (D.agg [Zl t,Tj x])::Yq x=P.d (D.sl 7 (List.map bZ (aP Da v)))::P.d (D.agg [D.int .i64 (Prod.fst (fg Da v fK)),D.int .i64 (Prod.snd (fg Da v fK))])::Yq bm/\Zx/\(bG i Da/\((0:Int)<=i/\i<=(100:Int))/\GU bm)/\ ∀o b,(b=true->OpW Da v fK o)->bif !b then ae (Te l K,[]) else∃v Jq n,[P.d (Tf K x),P.d (Tj x),P.d (Ks nk r)]=Zi v::P.d (Zt Jq)::Zv n/\Zx/\ZdC v Jq/\ ∀w,w=bx (il v Jq n)->ob (ZdE K) (ob (Zdu x) (ob (ZdU x K) (ob (decide (Zdv x<List.length (Sf K))) (ob (bO PR (28:TypeId) (D.nth (Sf K) (Zdv x))) (ob (ZdH l) (ob (ZdJ l&&aG (0+iu l+List.length [D.agg (Zl t::Tj x::Ks nk r::Tf K x::ZdR o)]) 88) (ae (P.d (D.agg (D.sl 7 (List.take (0+iu l+List.length [D.agg (Zl t::Tj x::Ks nk r::Tf K x::ZdR o)]) (ZdN l++[D.agg (Zl t::Tj x::Ks nk r::Tf K x::ZdR o)]))::ZdV K x w)),[]))))))))))))))))=(aI [(39,hKn),(40,hAt),(42,Xy),(15,Yf),(41,qlG)] [(5,ah (aR 23 5) qlH)] 23 [.d (wD l K),.d (yy x)] []) ae:=by kernel_rfl
def EM i (l:List ar)(x:cN) l' K':=bG (i+1) l'/\pX (i+1) l' K'/\(x.what.tmod 8≠7->(∀g∈l,g.dZ=(0,0))-> ∀g∈l',g.dZ=(0,0))
def WOk i l K:=bG i l/\pX i l K/\0<=i/\i<=100
def Yr:a8:=λps R ae=> ∃i l K x,ps=[.d (wD l K),.d (yy x)]/\R=[]/\(WOk i l K/\GU x)/\ ∀l' K',EM i l x l' K'->ae (.d (wD l' K'),[])
abbrev hi3(m:List cN)(l:List ar)(K:List (List Int))(i:Int):S:=⟨25,[(0,.d (.sl 6 (m.map yy))),(3,.ref 0 0 0),(4,iD i)],[(0,⟨0,none,bxW l K⟩)]⟩
abbrev ql(m:List cN):S:=⟨25,[(0,.d (.sl 6 (m.map yy))),(3,.ref 0 0 0),(4,iD 0)],[(0,⟨0,none,.box 57 [.d .e9,.sl 1 0 3]⟩),(1,⟨0,none,arV false [[],[],[]]⟩)]⟩
def ZdY m:=(0,P.d (D.sl 6 (List.map yy m)))
def ZdX m i:=D.nth (List.map yy m) (Ze i)
def ZdW m:=(↑(List.length (List.map yy m)):Int)
theorem qe7 m l K i ae:(bif decide (i<ZdW m) then bif decide (i<(16:Int)) then ob (decide ((0:Int)<=i/\i<ZdW m)) (ob (bO PR (60:TypeId) (ZdX m i)) (∃bg av sT x,[Te l K,P.d (D.agg [D.int .u8 (D.aj (D.au (ZdX m i) 0)),D.int .u8 (D.aj (D.au (ZdX m i) 1)),D.int .u8 (D.aj (D.au (ZdX m i) 2)),D.int .u8 (D.aj (D.au (ZdX m i) 3)),D.int .u8 (D.aj (D.au (ZdX m i) 4)),D.bool (D.dp (D.au (ZdX m i) 5))])]=Te av sT::Yq x/\Zx/\(WOk bg av sT/\GU x)/\ ∀l' K',EM bg av x l' K'->ob (Zh i) (ae (PX.normal,S.mk 25 (ZdY m::dQ::wH i) [Tc l' K'])))) else ae (PX.exit 0,S.mk 25 K5 [Tc l K]) else ae (PX.exit 0,S.mk 25 K5 [Tc l K]))=(aD [(23,Yr)] [] 9 3 (hi3 m l K i)) ae:=by kernel_rfl
def Ze0:=[(0,En.mk 0 none (Obj.box (57:TypeId) [P.d D.e9,P.sl 1 0 3])),(1,En.mk 0 none (Obj.arr (28:TypeId) false [Ow,Ow,Ow]))]
def ZdZ m:=D.nth (List.map yy m) 0
theorem qe8 m ae:(bif decide ((0:Int)<ZdW m) then ob (decide ((0:Int)<=(0:Int)/\(0:Int)<ZdW m)) (ob (bO PR (60:TypeId) (ZdZ m)) (∃i l K x,[P.d (D.agg [D.sl 7 [],D.sl 1 [Ow,Ow,Ow]]),P.d (D.agg [D.int .u8 (D.aj (D.au (ZdZ m) 0)),D.int .u8 (D.aj (D.au (ZdZ m) 1)),D.int .u8 (D.aj (D.au (ZdZ m) 2)),D.int .u8 (D.aj (D.au (ZdZ m) 3)),D.int .u8 (D.aj (D.au (ZdZ m) 4)),D.bool (D.dp (D.au (ZdZ m) 5))])]=Te l K::Yq x/\Zx/\(WOk i l K/\GU x)/\ ∀l' K',EM i l x l' K'->ae (PX.normal,S.mk 25 [ZdY m,dQ,(4,P.d ZO)] [Tc l' K']))) else ae (PX.exit 0,S.mk 25 K5 Ze0))=(aD [(23,Yr)] [] 9 3 (ql m)) ae:=by kernel_rfl
def BM(m:List cN):=m.length<=9223372036854775807/\ ∀x∈m,GU x
def EN(m:List cN) g:=bG 16 g/\((∀x∈m,x.what.tmod 8≠7)-> ∀y∈g,y.dZ=(0,0))
def qlI:S->K (PX×S):=λs ae=> ∃m,s=ql m/\BM m/\ae (.exit 0,⟨25,[(3,.ref 0 0 0)],[(0,⟨0,none,.box 57 [.d .e9,.sl 1 0 3]⟩),(1,⟨0,none,arV false [[],[],[]]⟩)]⟩)/\ ∀l (K:List (List Int)),EN m l->ae (.exit 0,⟨25,[(3,.ref 0 0 0)],[(0,⟨0,none,bxW l K⟩)]⟩)
theorem qlJ m ae:(∃cg,S.mk 25 (ZdY m::dQ::Ry) Ze0=S.mk 25 (ZdY cg::dQ::Ry) Ze0/\BM cg/\ae (ZN,Z5Z)/\ ∀(l:List ar) (_:List (List Int)),EN cg l->ae (gF l,[]))=(aI [] [(3,ah (aR 9 3) qlI)] 9 [.d (.sl 6 (m.map yy))] []) ae:=by kernel_rfl
def qlK:a8:=λps R ae=> ∃m,ps=[.d (.sl 6 (m.map yy))]/\R=[]/\BM m/\ae (.sl 0 0 0,[(0,⟨0,none,pW false []⟩)])/\ ∀g,EN m g->ae (dw g,[])
structure cp where
 f:D->Option D
 d:D->Option D
 c:Int
 n:Int
 gs:List D
 os:List D
 A:List D
 P:List D
 H:List D
 L:List D
 bb: ∀x:ao,∃b,aQ (d (aL x)) (.bool false)= .bool b
abbrev vdR(b:Nat)(V:cp):List (Nat×En):=[(b,⟨0,some b,.box 61 [.ref (b+1) 0 0]⟩),(b+1,⟨0,some (b+1),.box 74 [.sl (b+2) 0 V.gs.length,.sl (b+3) 0 V.os.length,.mp (b+4) 0,.sl (b+5) 0 V.A.length,.sl (b+6) 0 V.P.length,.mp (b+7) 0,.sl (b+8) 0 V.H.length,.sl (b+9) 0 V.L.length]⟩),(b+2,⟨0,some (b+2),.arr 31 false V.gs⟩),(b+3,⟨0,some (b+3),.arr 27 false V.os⟩),(b+4,⟨0,some (b+4),.map 27 V.f V.c false⟩),(b+5,⟨0,some (b+5),.arr 49 true V.A⟩),(b+6,⟨0,some (b+6),.arr 108 true V.P⟩),(b+7,⟨0,some (b+7),.map 49 V.d V.n false⟩),(b+8,⟨0,some (b+8),.arr 121 false V.H⟩),(b+9,⟨0,some (b+9),.arr 121 false V.L⟩)]
def iv(V:cp)(x:Pl):= !(V.d (aL x.1)).isSome
def qhJ:a8:=λps R ae=> ∃x V,ps=[.d (bn x),.ref 0 0 0]/\R=vdR 0 V/\ae (.d (.bool (iv V x)),vdR 0 V)
def Sg V:=Obj.arr (121:TypeId) false (cp.L V)
def Sh V:=Obj.arr (121:TypeId) false (cp.H V)
def Kt V:=Obj.map 49 (cp.d V) (cp.n V) false
def Ku V:=Obj.arr (108:TypeId) true (cp.P V)
def Kv V:=Obj.arr (49:TypeId) true (cp.A V)
def Kw V:=Obj.map 27 (cp.f V) (cp.c V) false
def Kx V:=Obj.arr (27:TypeId) false (cp.os V)
def Ky V:=Obj.arr (31:TypeId) false (cp.gs V)
def Ze9 V:=[(0,En.mk 0 (some 0) (Obj.box (61:TypeId) [je])),(1,En.mk 0 (some 1) (Obj.box (74:TypeId) [P.sl 2 0 (List.length (cp.gs V)),P.sl 3 0 (List.length (cp.os V)),P.mp 4 0,P.sl 5 0 (List.length (cp.A V)),P.sl 6 0 (List.length (cp.P V)),P.mp 7 0,P.sl 8 0 (List.length (cp.H V)),P.sl 9 0 (List.length (cp.L V))])),(2,En.mk 0 (some 2) (Ky V)),(3,En.mk 0 (some 3) (Kx V)),(4,En.mk 0 (some 4) (Kw V)),(5,En.mk 0 (some 5) (Kv V)),(6,En.mk 0 (some 6) (Ku V)),(7,En.mk 0 (some 7) (Kt V)),(8,En.mk 0 (some 8) (Sh V)),(9,En.mk 0 (some 9) (Sg V))]
theorem qlL x V ae:(ob (bO PR (4:TypeId) (aQ (cp.d V (Z8N x)) Z2)) (ae (P.d (D.bool !Option.isSome (cp.d V (Z8N x))),Ze9 V)))=(aI [] [] 48 [.d (bn x),.ref 0 0 0] (vdR 0 V)) ae:=by kernel_rfl
abbrev Ys(m:List Pl) V:=(0,⟨0,some 0,.arr 108 false (m.map bn)⟩)::vdR 1 V
abbrev GV:P:= .fn 48 [.ref 1 0 0]
abbrev ixP(m:List Pl)(V:cp)(n k:Int):S:=⟨19,[(0,.sl 0 0 m.length),(1,GV),(7,iD n),(8,iD k)],Ys m V⟩
abbrev oxP(m:List Pl)(V:cp)(i:Int):PX×S:=(.ret,⟨19,[(0,.sl 0 0 m.length),(1,GV),(4,iD i)],Ys m V⟩)
abbrev qlM(m:List Pl)(V:cp):PX×S:=(.exit 0,⟨19,[(0,.sl 0 0 m.length),(1,GV)],Ys m V⟩)
def Zeb ew:=[(1,En.mk 0 (some 1) (Obj.box (61:TypeId) [vp])),(2,En.mk 0 (some 2) (Obj.box (74:TypeId) [P.sl 3 0 (List.length (cp.gs ew)),P.sl 4 0 (List.length (cp.os ew)),P.mp 5 0,P.sl 6 0 (List.length (cp.A ew)),P.sl 7 0 (List.length (cp.P ew)),P.mp 8 0,P.sl 9 0 (List.length (cp.H ew)),P.sl 10 0 (List.length (cp.L ew))])),(3,En.mk 0 (some 3) (Ky ew)),(4,En.mk 0 (some 4) (Kx ew)),(5,En.mk 0 (some 5) (Kw ew)),(6,En.mk 0 (some 6) (Kv ew)),(7,En.mk 0 (some 7) (Ku ew)),(8,En.mk 0 (some 8) (Kt ew)),(9,En.mk 0 (some 9) (Sh ew)),(10,En.mk 0 (some 10) (Sg ew))]
def Ci m ew:=SV m::Zeb ew
def PK:=(1,P.fn (48:FuncId) [je])
theorem qe9 m V n k ae:(bif ZH k n then ob (decide ((0:Int)<=k/\k<pV m)) (ob (Cb k m) (ob (nb m k) (∃x ew,P.d (D.agg (GB m k))::tK=SZ x::tK/\Ze9 V=Ze9 ew/\bif iv ew x then ae (PX.ret,S.mk 19 (Ht m::PK::CX k) (Ci m ew)) else ob (Zh k) (ae (PX.normal,S.mk 19 (Ht m::PK::qo n::rN k) (Ci m ew)))))) else ae (PX.exit 0,S.mk 19 [Ht m,PK] (Ci m V)))=(aD [(48,qhJ)] [] 79 2 (ixP m V n k)) ae:=by kernel_rfl
def qlN:S->K (PX×S):=λs ae=> ∃m V,s=ixP m V (m.length:Int) 0/\m.length<=1000000/\(∀i hi,0<=i->iv V m[i.toNat]=true->(∀j (hj:j<i.toNat),iv V (m[j]'(by omega))=false)->ae (oxP m V i))/\((∀j (hj:j<m.length),iv V m[j]=false)->ae (qlM m V))
def Zee cg ew:= ∀(j:Nat) (hj:j<List.length cg),iv ew cg[j]=false
def Zed cg ew:=S.mk 19 (Ht cg::PK::(7,P.d (D.int .i64 (pV cg)))::wQ) (Ci cg ew)
theorem qhK m V ae:(∃cg ew,Zed m V=Zed cg ew/\gx cg/\(∀i hi,(0:Int)<=i->iv ew cg[Int.toNat i]=true->(∀(j:Nat) (hj:j<Int.toNat i),iv ew cg[j]=false)->ae (P.d (Zt i),Ci cg ew))/\(Zee cg ew->ae (My,Ci cg ew)))=(aI [] [(2,ah (aR 79 2) qlN)] 79 [.sl 0 0 m.length,GV] (Ys m V)) ae:=by kernel_rfl
def qlO:a8:=λps R ae=> ∃m V,ps=[.sl 0 0 m.length,GV]/\R=Ys m V/\m.length<=1000000/\(∀i hi,0<=i->iv V m[i.toNat]=true->(∀j (hj:j<i.toNat),iv V (m[j]'(by omega))=false)->ae (iD i,Ys m V))/\((∀j (hj:j<m.length),iv V m[j]=false)->ae (iD (-1),Ys m V))
abbrev dpH(q:List Pl)(n:Nat)(V:cp)(i k:Int):S:=⟨42,[(0,.sl 0 0 n),(1,GV),(5,iD i),(6,iD k)],Ys q V⟩
theorem qoq q n V i k ae:(bif Ex k n then ob (ke k n) (ob (Cb k q) (ob (nb q k) (∃x ew,P.d (D.agg (GB q k))::tK=SZ x::tK/\Ze9 V=Ze9 ew/\bif !iv ew x then ob (ke i n) (ob (Cb i q) (ob (nb q i) (ob (Zh i) (ob (Zh k) (ae (PX.normal,S.mk 42 (sR n::PK::(5,Zm i)::ZA k) ((0,En.mk 0 (some 0) (Obj.arr (108:TypeId) false (List.set (eu q) (Ze i) (D.aT (D.agg (GB q i)) (GB q k)))))::Zeb ew))))))) else ob (Zh k) (ae (PX.normal,S.mk 42 (sR n::PK::C5 i::ZA k) (Ci q ew)))))) else ae (PX.exit 0,S.mk 42 [sR n,PK,C5 i] (Ci q V)))=(aD [(48,qhJ)] [] 47 5 (dpH q n V i k)) ae:=by kernel_rfl
def jW(V:cp)(x:Pl):=(V.d (aL x.1)).isSome
abbrev dpE(q:List Pl)(n:Nat)(V:cp)(i:Int):PX×S:=(.exit 0,⟨42,[(0,.sl 0 0 n),(1,GV),(5,iD i)],Ys q V⟩)
structure qhL(m:List Pl)(V:cp)(i k:Int):Prop where
 len:m.length<=1000000
 i0:0<=i
 ik:k=i+1
 kl:k<=m.length
 eq:(m.take k.toNat).filter (jW V)=m.take i.toNat
def gDp:S->K (PX×S):=λs ae=> ∃m V i k,s=dpH m m.length V i k/\qhL m V i k/\ ∀(o:List Pl) (i':Int),o=m.filter (jW V)->i'=o.length->o.length<=m.length->ae (dpE (o++m.drop o.length) m.length V i')
def Zeg o Np:=List.map bn (o++List.drop (fo o) Np)
def Zef cg:=[oS cg,P.fn (48:FuncId) [je]]
theorem qlP m V ae:(∃cg ew,Zef m=Zef cg/\Ci m V=Ci cg ew/\gx cg/\(∀i hi,(0:Int)<=i->iv ew cg[Int.toNat i]=true->(∀(j:Nat) (hj:j<Int.toNat i),iv ew cg[j]=false)->bif i==(-1:Int) then ae (oS m,Ci cg ew) else ob (Zh i) (∃Np V bg k,S.mk 42 (Ht m::PK::C5 i::ZA i) (Ci cg ew)=S.mk 42 (Ht Np::PK::C5 bg::EC k) (Ci Np V)/\qhL Np V bg k/\ ∀o i',o=List.filter (jW V) Np->i'=pV o->fo o<=fo Np->ob (decide ((0:Int)<=i'/\i'<=pV Np)) (ob (decide (Ze i'+(fo Np-Ze i')<=List.length (Zeg o Np))) (ob (decide ((0:Int)<=i'/\i'<=pV Np)) (ae (P.sl 0 0 (Ze i'),(0,En.mk 0 (some 0) (Obj.arr (108:TypeId) false (List.take (Ze i') (Zeg o Np)++List.replicate (fo Np-Ze i') xG++List.drop (Ze i'+(fo Np-Ze i')) (Zeg o Np))))::Zeb V))))))/\(Zee cg ew->ae (oS m,Ci cg ew)))=(aI [(79,qlO)] [(5,ah (aR 47 5) gDp)] 47 [.sl 0 0 m.length,GV] (Ys m V)) ae:=by kernel_rfl
def hDp:a8:=λps R ae=> ∃m V,ps=[.sl 0 0 m.length,GV]/\R=Ys m V/\m.length<=1000000/\ ∀o tl,o=m.filter (jW V)->ae (.sl 0 0 o.length,(0,⟨0,some 0,.arr 108 false (o.map bn++tl)⟩)::vdR 1 V)
theorem vE{m:List Pl}{i}(h:i<m.length) t:(m.take (i+1)).filter t=(m.take i).filter t++(if t m[i]=true then [m[i]] else []):=by
 rw[zaf h,zcC];congr 1;by_cases ht:t m[i]=true
 ·rw[zap ht];simp[ht]
 rw[zan ht];simp[ht]
theorem oL V x:jW V x= !iv V x:=by unfold jW iv;rw[Bool.not_not]
theorem GW{m o:List Pl}(h:o.length<=m.length):(o++m.drop o.length).length=m.length:=by simp;omega
theorem qhM{m o:List Pl}{k}(hk:k<m.length)(h:o.length<=k):(o++m.drop o.length)[k]'(by rw[GW (by omega)];exact hk)=m[k]:=by rw[zdy h,List.getElem_drop];congr 1;omega
theorem qhN{m o:List Pl}{x}(h:o.length<m.length):(o++m.drop o.length).set o.length x=(o++[x])++m.drop (o++[x]).length:=by rw[zcs _ _ (zal _),zdn,zaK];congr 1;rw[za5 h,List.set_cons_zero];simp
theorem Yt{m o:List Pl}{k}(hk:k<m.length)(h:o.length<=k):D.nth ((o++m.drop o.length).map bn) k=bn m[k]:=by rw[az _ _ _ (by rw[GW (by omega)];exact hk),qhM hk h]
theorem PL b:bO PR 4 (.bool b)=true:=by kernel_rfl
section
variable{X:XF}
theorem qfa:FD X 48 qhJ:=FD.mk (by kernel_rfl) .nil .nil (by
 intro ps R ae hh;obtain⟨x,V,rfl,rfl,hp⟩:=hh
 (rw[<-qlL];delta Sg Sh Kt Ku Kv Kw Kx Ky je Ze9 Z2 Pj Pk Pm Z8N)
 obtain⟨b,hb⟩:=V.bb x.1;refine aq ?_ hp;have hb:aQ (V.d (D.agg [D.int .i64 x.1.1,D.int .i64 x.1.2.1,D.int .i64 x.1.2.2])) (D.bool false)= .bool b:=hb;rw[hb];exact PL b)
theorem qdd:LD X 79 2 (ah (aR 79 2) qlN):=
 LD.find (by kernel_rfl) (by kernel_rfl) (.cons qfa .nil) .nil
  (A:=List Pl×cp) (λa k=>ixP a.1 a.2 (a.1.length:Int) k) (·.1) (λa _ x=>iv a.2 x) (λa=>a.1.length<=1000000) (λa i=>oxP a.1 a.2 i) (λa=>qlM a.1 a.2) (λ_ _ h=>by cases h) (λ_ h=>by cases h)
  (by
   rintro⟨m,V⟩ k ae eD hm h0 hk ht hf;dsimp only at*
   (rw[<-qe9];delta Zl Zm rN Zt qo Z8 Z7 Zh Sg Sh Kt Ku Kv Kw Kx Ky vp Zeb eu SV Ci oR CX je PK fo oS Ht Ze9 M1 Pf Pg Ph Pj Pk Pm SZ b9 tK Ze jG CO CP A3 GB nb nQ Cb pV ZH)
   have e1:D.nth (m.map bn) k.toNat=bn m[k.toNat]:=az _ _ _ eD;rw[e1];simp only[zaa];refine bF hk (ak ⟨h0,hk⟩ (ak eD (aq (dX _) ⟨m[k.toNat],V,rfl,rfl,ay (λh=>ht h) λh=>ak (by omega) (hf h)⟩))))
  (by
   rintro⟨m,V⟩ k ae hm hk hp;dsimp only at*
   (rw[<-qe9];delta Zl Zm rN Zt qo Z8 Z7 Zh Sg Sh Kt Ku Kv Kw Kx Ky vp Zeb eu SV Ci oR CX je PK fo oS Ht Ze9 M1 Pf Pg Ph Pj Pk Pm SZ b9 tK Ze jG CO CP A3 GB nb nQ Cb pV ZH)
   exact mD (by omega) hp)
  (by rintro s ae ⟨m,V,rfl,hm,h1,h2⟩;exact⟨(m,V),rfl,hm,h1,h2⟩)
theorem qlQ:FD X 79 qlO:=FD.mk (by kernel_rfl) .nil (.cons qdd .nil) (by
 intro ps R ae hh;obtain⟨m,V,rfl,rfl,hm,h1,h2⟩:=hh
 (rw[<-qhK];delta My Zee Sg Sh Kt Ku Kv Kw Kx Ky vp Zeb eu SV Ci Zt fo gx Z5 wQ pV je PK oS Ht Zed)
 exact⟨m,V,rfl,hm,h1,h2⟩)
theorem qhO:LD X 47 5 (ah (aR 47 5) gDp):=
 LD.par (by kernel_rfl) (by kernel_rfl) (.cons qfa .nil) .nil
  (A:=List Pl×cp) (B:=List Pl×Int×Int) (λa b=>dpH (b.1++a.1.drop b.1.length) a.1.length a.2 b.2.1 b.2.2)
  (λa b=>a.1.length<=1000000/\b.1=(a.1.take b.2.2.toNat).filter (jW a.2)/\b.2.1=(b.1.length:Int)/\0<=b.2.2/\b.2.2.toNat<=a.1.length)
  (λa b=>((a.1.length:Int)-b.2.2).toNat)
  (λa x=> ∃(o:List Pl) (i:Int),o=a.1.filter (jW a.2)/\i=(o.length:Int)/\o.length<=a.1.length/\x=dpE (o++a.1.drop o.length) a.1.length a.2 i)
  (by
   rintro⟨m,V⟩ ⟨o,i,k⟩ ⟨hm,ho,hi,h0,hk⟩;dsimp only at*
   have jT:o.length<=k.toNat:=by rw[ho];refine zaL (zaM _ _) ?_;simp;omega
   (rw[<-qoq];delta Sg Sh Kt Ku Kv Kw Kx Ky vp Zeb eu SV Ci Zt C5 Ze Zl Zm ZA je PK ZB sR Z8 Z7 Zh Ze9 M1 Pf Pg Ph Pj Pk Pm SZ b9 tK jG CO CP A3 GB nb nQ Cb ke Ex)
   refine dY (λhp=> ?_) λhp=> ?_
   ·have bs:k.toNat<m.length:=by omega
    have lu:=vE bs (jW V);have Ia:=GW (m:=m) (o:=o) (by omega);have e1:D.nth ((o++m.drop o.length).map bn) k.toNat=bn m[k.toNat]:=Yt bs jT;have nF:=λx:Pl=>qhN (m:=m) (o:=o) (x:=x) (by omega);have hit:i.toNat=o.length:=by omega
    have hib:0<=i/\i<(m.length:Int):=⟨by omega,by omega⟩
    have hif:(-9223372036854775808:Int)<=i+1/\i+1<=9223372036854775807:=by omega
    have hJ:(-9223372036854775808:Int)<=k+1/\k+1<=9223372036854775807:=by omega
    have e2:D.nth ((o++m.drop o.length).map bn) i.toNat=bn m[i.toNat]:=Yt (by omega) (by omega);rw[e1,e2];generalize m[k.toNat]=g at*
    generalize m[i.toNat]=y at*
    have w1: ∀x y:Pl,D.aT (D.agg [D.int .i64 (D.aj (D.au (bn x) 0)),D.int .i64 (D.aj (D.au (bn x) 1)),D.int .i64 (D.aj (D.au (bn x) 2)),D.int .i64 (D.aj (D.au (bn x) 3)),D.int .i64 (D.aj (D.au (bn x) 4)),D.int .i64 (D.aj (D.au (bn x) 5)),D.str (D.cJ (D.au (bn x) 6)),D.bool (D.dp (D.au (bn x) 7))]) [D.int .i64 (D.aj (D.au (bn y) 0)),D.int .i64 (D.aj (D.au (bn y) 1)),D.int .i64 (D.aj (D.au (bn y) 2)),D.int .i64 (D.aj (D.au (bn y) 3)),D.int .i64 (D.aj (D.au (bn y) 4)),D.int .i64 (D.aj (D.au (bn y) 5)),D.str (D.cJ (D.au (bn y) 6)),D.bool (D.dp (D.au (bn y) 7))]=bn y:=λ_ _=>rfl;rw[w1,hit,<-zb4,nF];simp only[zaa,Ia];refine ak ⟨h0,hp⟩ (ak bs (aq (dX _) ⟨g,V,rfl,rfl,ay (λh=> ?_) λh=> ?_⟩))
    ·refine ak hib (ak (by omega) (aq (dX _) (ak hif (ak hJ ?_))));refine⟨((m.length:Int)-(k+1)).toNat,by omega,(o++[g],i+1,k+1),rfl,⟨hm,?_,?_,by show 0<=k+1;omega,by show(k+1).toNat<=m.length;omega⟩,rfl⟩
     ·show o++[g]=_;rw[show(k+1).toNat=k.toNat+1 by omega,lu,zap (by rw[oL];exact h),ho]
     show i+1=((o++[g]).length:Int)
     rw[zaj];simp;exact hi
    refine ak hJ ?_;refine⟨((m.length:Int)-(k+1)).toNat,by omega,(o,i,k+1),rfl,⟨hm,?_,hi,by show 0<=k+1;omega,by show(k+1).toNat<=m.length;omega⟩,rfl⟩;show o=_;rw[show(k+1).toNat=k.toNat+1 by omega,lu,zan (by rw[oL,h];simp),zbi];exact ho
   refine⟨o,i,?_,hi,by omega,rfl⟩;rw[ho,zak (by omega)])
  (by
   rintro s ae ⟨m,V,i,k,rfl,hq,hp⟩;have wc:=hq.kl;have h0:=hq.i0;have hik:=hq.ik;have hl:(m.take i.toNat).length=i.toNat:=by rw[zau];omega
   refine⟨(m,V),(m.take i.toNat,i,k),?_,⟨hq.len,hq.eq.symm,?_,by show 0<=k;omega,by show k.toNat<=m.length;omega⟩,?_⟩
   ·dsimp only;rw[hl,zbJ]
   ·show i=_;rw[hl];omega
   rintro x ⟨o,i',h1,h2,h3,rfl⟩;exact hp o i' h1 h2 h3)
theorem qhP{m:List Pl}{V}(h: ∀j (hj:j<m.length),iv V m[j]=false):m.filter (jW V)=m:=by rw[zc6];intro x hx;obtain⟨j,hj,rfl⟩:=zaQ hx;rw[oL,h j hj];rfl
theorem Yu{m V i}(hm:m.length<=1000000)(hi:i.toNat<m.length)(h0:0<=i)(ht:iv V m[i.toNat]=true)(hb: ∀j (hj:j<i.toNat),iv V (m[j]'(by omega))=false):qhL m V i (i+1):=by refine⟨hm,h0,rfl,by omega,?_⟩;rw[show(i+1).toNat=i.toNat+1 by omega,vE hi,zan (by rw[oL,ht];simp),zbi,zc6];intro x hx;obtain⟨j,hj,rfl⟩:=zcE.1 hx;rw[oL,hb j (by omega)];rfl
theorem qor:FD X 47 hDp:=FD.mk (by kernel_rfl) (.cons qlQ .nil) (.cons qhO .nil) (by
 intro ps R ae hh;obtain⟨m,V,rfl,rfl,hm,hp⟩:=hh
 (rw[<-qlP];delta Zee Sg Sh Kt Ku Kv Kw Kx Ky vp Zeb Z2 oP Z5 xG fo Zeg Ze pV Zt ZI EC Zl Zm ZA C5 je PK oS Ht Z8 Z7 Zh gx eu SV Ci Zef)
 refine⟨m,V,rfl,rfl,hm,λi hi h0 ht hb=>JP (λh=>by omega) λ_=>ak (by omega) ⟨m,V,i,i+1,rfl,Yu hm hi h0 ht hb,λo i' ho zQ jT=> ?_⟩,λh=> ?_⟩
 ·have hit:i'.toNat=o.length:=by omega
  refine ak (by omega) (ak (by rw[hit,zaa,GW jT];omega) (ak (by omega) ?_));rw[hit,zaC,zci (by simp),zaK];exact hp o _ ho
 have:=hp m [] (qhP h).symm;rwa [zbi] at this)
end
abbrev vwZ(z:Bool)(V:cp):List (Nat×En):=[(0,⟨0,some 0,.box 74 [.sl 1 0 V.gs.length,.sl 2 0 V.os.length,.mp 3 0,.sl 4 0 V.A.length,.sl 5 0 V.P.length,.mp 6 0,.sl 7 0 V.H.length,.sl 8 0 V.L.length]⟩),(1,⟨0,some 1,.arr 31 false V.gs⟩),(2,⟨0,some 2,.arr 27 false V.os⟩),(3,⟨0,some 3,.map 27 V.f V.c false⟩),(4,⟨0,some 4,.arr 49 z V.A⟩),(5,⟨0,some 5,.arr 108 z V.P⟩),(6,⟨0,some 6,.map 49 V.d V.n false⟩),(7,⟨0,some 7,.arr 121 false V.H⟩),(8,⟨0,some 8,.arr 121 false V.L⟩)]
def qfb(V:cp) x:=D.dp (aQ (V.d (aL x)) (.bool false))
def oM(V:cp)(p:Pl):Pl:=(p.1,p.2.1,p.2.2.1,qfb V p.1)
abbrev qhQ q V:=vwZ true V++[(9,⟨0,none,.box 61 [.ref 0 0 0]⟩),(10,⟨0,none,.arr 108 false q⟩)]
abbrev qhR(q:List Pl)(tl:List D)(n:Nat)(V:cp)(i:Int):S:=⟨48,[(0,.ref 0 0 0),(1,.ref 9 0 0),(3,.sl 10 0 n),(18,.sl 10 0 n),(19,.d (.int .i64 (n:Int))),(20,.d (.int .i64 i))],qhQ (q.map bn++tl) V⟩
def Zew:=(9,En.mk 0 none (Obj.box (61:TypeId) tK))
def Zev V:=(8,En.mk 0 (some 8) (Sg V))
def Zeu V:=(7,En.mk 0 (some 7) (Sh V))
def Zet V:=(6,En.mk 0 (some 6) (Kt V))
def Zes V:=(5,En.mk 0 (some 5) (Ku V))
def Zer V:=(4,En.mk 0 (some 4) (Kv V))
def Zeq V:=(3,En.mk 0 (some 3) (Kw V))
def Zep V:=(2,En.mk 0 (some 2) (Kx V))
def Zeo V:=(1,En.mk 0 (some 1) (Ky V))
def Zem V:=Obj.box (74:TypeId) [P.sl 1 0 (List.length (cp.gs V)),P.sl 2 0 (List.length (cp.os V)),mZ,P.sl 4 0 (List.length (cp.A V)),P.sl 5 0 (List.length (cp.P V)),P.mp 6 0,P.sl 7 0 (List.length (cp.H V)),P.sl 8 0 (List.length (cp.L V))]
def Zen V:=(0,En.mk 0 (some 0) (Zem V))
def Zex V q tl:=[Zen V,Zeo V,Zep V,Zeq V,Zer V,Zes V,Zet V,Zeu V,Zev V,Zew,(10,En.mk 0 none (Obj.arr (108:TypeId) false (eu q++tl)))]
def Zel:=(1,P.ref 9 0 0)
def Lg q tl i:=D.nth (eu q++tl) (Ze i)
def Zek q tl i:=D.int .i64 (D.aj (D.au (Lg q tl i) 2))
def Zej q tl i:=D.int .i64 (D.aj (D.au (Lg q tl i) 1))
def Zei q tl i:=D.int .i64 (D.aj (D.au (Lg q tl i) 0))
theorem qfc q tl n V i ae:(bif Ex i n then ob (ke i n) (ob (decide (Ze i<List.length (eu q++tl))) (ob (bO PR (108:TypeId) (Lg q tl i)) (ob (bO PR (4:TypeId) (aQ (cp.d V (D.agg [Zei q tl i,Zej q tl i,Zek q tl i])) Z2)) (ob (ke i n) (ob (decide (Ze i<List.length (eu q++tl))) (ob (bO PR (108:TypeId) (Lg q tl i)) (ob (Zh i) (ae (PX.normal,S.mk 48 [gD,Zel,(3,P.sl 10 0 n),(18,P.sl 10 0 n),(19,Z71 n),(20,Zm i)] [Zen V,Zeo V,Zep V,Zeq V,Zer V,Zes V,Zet V,Zeu V,Zev V,Zew,(10,En.mk 0 none (Obj.arr (108:TypeId) false (List.set (eu q++tl) (Ze i) (D.aT (D.agg [Zei q tl i,Zej q tl i,Zek q tl i,D.int .i64 (D.aj (D.au (Lg q tl i) 3)),D.int .i64 (D.aj (D.au (Lg q tl i) 4)),D.int .i64 (D.aj (D.au (Lg q tl i) 5)),D.str (D.cJ (D.au (Lg q tl i) 6)),D.bool (D.dp (D.au (Lg q tl i) 7))]) [Zei q tl i,Zej q tl i,Zek q tl i,D.int .i64 (D.aj (D.au (Lg q tl i) 3)),D.int .i64 (D.aj (D.au (Lg q tl i) 4)),D.int .i64 (D.aj (D.au (Lg q tl i) 5)),D.str (D.cJ (D.au (Lg q tl i) 6)),D.bool (D.dp (aQ (cp.d V (D.agg [Zei q tl i,Zej q tl i,Zek q tl i])) Z2))]))))]))))))))) else ae (PX.exit 0,S.mk 48 [gD,Zel,(3,P.sl 10 0 n)] (Zex V q tl)))=(aD [] [] 25 4 (qhR q tl n V i)) ae:=by kernel_rfl
def qlR:S->K (PX×S):=λs ae=> ∃o tl V,s=qhR o tl o.length V 0/\o.length<=1000000/\ ∀o',o'=o.map (oM V)->ae (.exit 0,⟨48,[(0,.ref 0 0 0),(1,.ref 9 0 0),(3,.sl 10 0 o.length)],qhQ (o'.map bn++tl) V⟩)
def wW V (o:List Pl) k:=(o.take k).map (oM V)++o.drop k
theorem Kz V o k:(wW V o k).length=o.length:=by simp[wW];omega
theorem Yv V {o k}(h:k<o.length):(wW V o k)[k]'(by rw[Kz];exact h)=o[k]:=by unfold wW;rw[zdy (by simp;omega),List.getElem_drop];congr 1;simp;omega
theorem Yw V {o k}(h:k<o.length):(wW V o k).set k (oM V o[k])=wW V o (k+1):=by
 unfold wW;have hl:((o.take k).map (oM V)).length=k:=by simp;omega
 rw[zcs _ _ (by omega),hl,zdn,za5 h,List.set_cons_zero,zaf h,zaC,zaK];rfl
theorem qde{l:List Pl}{tl k}(h:k<l.length):D.nth (l.map bn++tl) k=bn l[k]:=by unfold D.nth;rw[zab,zaT (by simpa using h)];simp[h]
theorem qdf{l:List Pl}{tl k}(h:k<l.length) p:(l.map bn++tl).set k (bn p)=(l.set k p).map bn++tl:=by rw[List.set_append_left _ _ (by simpa using h),zb4]
section
variable{X:XF}
theorem qdg:LD X 25 4 (ah (aR 25 4) qlR):=LD.idx (by kernel_rfl) (by kernel_rfl) .nil .nil
 (A:=List Pl×List D×cp) (B:=Unit) (λa _ i=>qhR (wW a.2.2 a.1 i.toNat) a.2.1 a.1.length a.2.2 i) (λa=>a.1.length) (λa _ _=>a.1.length<=1000000)
 (λa x=>x=(.exit 0,⟨48,[(0,.ref 0 0 0),(1,.ref 9 0 0),(3,.sl 10 0 a.1.length)],qhQ ((a.1.map (oM a.2.2)).map bn++a.2.1) a.2.2⟩))
 (by
  rintro⟨o,tl,V⟩ _ i ae h0 bJ bs hm hn ho;dsimp only at*
  (rw[<-qfc];delta eu b9 tK Zew Sg Zev Sh Zeu Kt Zet Ku Zes Kv Zer Kw Zeq Kx Zep Ky Zeo mZ Zem Zen Zex Zl Zm Z71 Zel gD Z8 Z7 Zh Z2 Ze Lg Zek Zej Zei ke Ex)
  have hql:=Kz V o i.toNat;have e1:D.nth ((wW V o i.toNat).map bn++tl) i.toNat=bn o[i.toNat]:=by rw[qde (by omega),Yv V bs]
  have hs:=qdf (l:=wW V o i.toNat) (tl:=tl) (k:=i.toNat) (by omega) (oM V o[i.toNat]);rw[Yw V bs] at hs;have bK:i.toNat<((wW V o i.toNat).map bn++tl).length:=by rw[zaj,zaa,hql];omega
  have vM:=hn () hm;rw[show(i+1).toNat=i.toNat+1 by omega] at vM;rw[e1];generalize o[i.toNat]=p at*
  have w1:D.aT (D.agg [D.int .i64 (D.aj (D.au (bn p) 0)),D.int .i64 (D.aj (D.au (bn p) 1)),D.int .i64 (D.aj (D.au (bn p) 2)),D.int .i64 (D.aj (D.au (bn p) 3)),D.int .i64 (D.aj (D.au (bn p) 4)),D.int .i64 (D.aj (D.au (bn p) 5)),D.str (D.cJ (D.au (bn p) 6)),D.bool (D.dp (D.au (bn p) 7))]) [D.int .i64 (D.aj (D.au (bn p) 0)),D.int .i64 (D.aj (D.au (bn p) 1)),D.int .i64 (D.aj (D.au (bn p) 2)),D.int .i64 (D.aj (D.au (bn p) 3)),D.int .i64 (D.aj (D.au (bn p) 4)),D.int .i64 (D.aj (D.au (bn p) 5)),D.str (D.cJ (D.au (bn p) 6)),D.bool (D.dp (aQ (V.d (D.agg [D.int .i64 (D.aj (D.au (bn p) 0)),D.int .i64 (D.aj (D.au (bn p) 1)),D.int .i64 (D.aj (D.au (bn p) 2))])) (D.bool false)))]=bn (oM V p):=rfl;rw[w1,hs];obtain⟨b,hb⟩:=V.bb p.1;have hb:aQ (V.d (D.agg [D.int .i64 (D.aj (D.au (bn p) 0)),D.int .i64 (D.aj (D.au (bn p) 1)),D.int .i64 (D.aj (D.au (bn p) 2))])) (D.bool false)= .bool b:=hb;rw[hb];exact bF bJ (ak ⟨h0,bJ⟩ (ak bK (aq (dX _) (aq (PL b) (ak ⟨h0,bJ⟩ (ak bK (aq (dX _) (ak (by omega) vM)))))))))
 (by
  rintro⟨o,tl,V⟩ _ i ae hi hm ho;dsimp only at*
  (rw[<-qfc];delta eu b9 tK Zew Sg Zev Sh Zeu Kt Zet Ku Zes Kv Zer Kw Zeq Kx Zep Ky Zeo mZ Zem Zen Zex Zl Zm Z71 Zel gD Z8 Z7 Zh Z2 Ze Lg Zek Zej Zei ke Ex)
  refine mD (by omega) (ho _ (λh=>by cases h) ?_);have:wW V o i.toNat=o.map (oM V):=by unfold wW;rw[show i.toNat=o.length by omega,zai,zct,zbi]
  rw[this];rfl)
 (by rintro s ae ⟨o,tl,V,rfl,hm,hp⟩;refine⟨(o,tl,V),(),rfl,hm,?_⟩;rintro x rfl;exact hp _ rfl)
end
def cI(U:List ao)(d:D):=match d with
 | .agg [.int .i64 a,.int .i64 b,.int .i64 c]=>if U.count (a,b,c)=0 then none else some (iE (U.count (a,b,c):Int))
 |_=>none
theorem qfd U x:cI U (aL x)=if U.count x=0 then none else some (iE (U.count x:Int)):=rfl
theorem qhS:cI []=λ_=>none:=by
 funext d;unfold cI;split
 ·simp
 rfl
theorem Yx U x:aQ (cI U (aL x)) (iE 0)=iE (U.count x:Int):=by
 rw[qfd];split
 next h=>rw[h];rfl
 rfl
theorem PN U x:aX (aL x) (iE ((U.count x:Int)+1)) (cI U)=cI (x::U):=by
 funext d;unfold aX;cases hd:D.gH (aL x) d with
 |true=>have:=(D.bS _ _).1 hd;subst this;simp only[zbY];rw[qfd,zbP,zan (by omega)];simp
 |false=>
  have cO:aL x≠d:=λe=>by rw[(D.bS _ _).2 e] at hd;cases hd
  simp only[zbl];unfold cI;split
  next a b c=>have:x≠(a,b,c):=λe=>cO (by rw[e];rfl);rw[zcY this]
  rfl
theorem qhT U x z:(λk'=>bif D.gH (aL x) k' then some (iE ((U.count x:Int)+1)) else aX (aL x) z (cI U) k')=cI (x::U):=by rw[<-PN];funext d;unfold aX;cases D.gH (aL x) d<;>rfl
theorem qdh U x z:aX (aL x) (.int .i64 ((U.count x:Int)+1)) (aX (aL x) z (cI U))=cI (x::U):=by rw[Ej];exact PN U x
def GX(t:Td):D:= .agg [iE t.1.1,iE t.1.2.1,iE t.1.2.2,iE t.2.1.1,iE t.2.1.2.1,iE t.2.1.2.2,iE t.2.2.1.1,iE t.2.2.1.2.1,iE t.2.2.1.2.2,.str t.2.2.2.1,.bool t.2.2.2.2]
abbrev Si(z:Bool)(l:List Td):Obj:= .arr 151 z (l.map GX)
abbrev Tk(f:D->Option D)(c:Int):Obj:= .map 49 f c false
abbrev tnP(l:List Td):=ct (l.map (·.1))
abbrev tpP(l:List Td):=dD (l.map (·.2))
abbrev psH(l out:List Td)(f:D->Option D)(c i:Int):S:=⟨50,[(0,tnP l),(1,tpP l),(5,.sl 0 0 out.length),(6,.mp 1 0),(14,iD (min (((l.map (·.1)).map aL).length:Int) (((l.map (·.2)).map bn).length:Int))),(15,iD i)],[(0,⟨0,none,Si false out⟩),(1,⟨0,none,Tk f c⟩)]⟩
def ZeM out:=En.mk 0 none (Obj.arr (151:TypeId) false (List.map GX out))
def Db l:=List.map aL (List.map (λ(x:Td)=>Prod.fst x) l)
def ZeC l i:=D.int .i64 (D.aj (D.au (D.nth (Db l) (Ze i)) 0))
def Yy l i:=D.agg [ZeC l i,D.int .i64 (D.aj (D.au (D.nth (Db l) (Ze i)) 1)),D.int .i64 (D.aj (D.au (D.nth (Db l) (Ze i)) 2))]
def ZeK l i:=D.agg [ZeC l i,D.int .i64 (D.aj (D.au (D.nth (Db l) (Ze i)) mC)),D.int .i64 (D.aj (D.au (D.nth (Db l) (Ze i)) (mC+1)))]
def ZeL l i f c:=[(1,En.mk 0 none (Obj.map 49 (λk'=>bif D.gH (ZeK l i) k' then some (D.int .i64 (D.aj (aQ (f (ZeK l i)) Z5)+(1:Int))) else aX (ZeK l i) (aQ (f (ZeK l i)) Z5) f k') (bif Option.isSome (f (Yy l i)) then c else c+(1:Int)) false))]
def Tm l:=List.map bn (List.map (λ(x:Td)=>Prod.snd x) l)
def ZeA l:=min (↑(List.length (Db l)):Int) (↑(List.length (Tm l)):Int)
def ZeJ l i:=[Z6c,(14,P.d (D.int .i64 (ZeA l))),(15,Zm i)]
def ZeI l:=(1,P.d (D.sl 8 (Tm l)))
def ZeH l:=(0,P.d (D.sl 3 (Db l)))
def Yz l i:=D.nth (Tm l) (Ze i)
def ZeG l i:=[D.agg [ZeC l i,D.int .i64 (D.aj (D.au (D.nth (Db l) (Ze i)) 1)),D.int .i64 (D.aj (D.au (D.nth (Db l) (Ze i)) 2)),D.int .i64 (D.aj (D.au (Yz l i) 0)),D.int .i64 (D.aj (D.au (Yz l i) 1)),D.int .i64 (D.aj (D.au (Yz l i) 2)),D.int .i64 (D.aj (D.au (Yz l i) 3)),D.int .i64 (D.aj (D.au (Yz l i) 4)),D.int .i64 (D.aj (D.au (Yz l i) 5)),D.str (D.cJ (D.au (Yz l i) 6)),D.bool (D.dp (D.au (Yz l i) 7))]]
def ZeE l i f:=aQ (aX (Yy l i) (D.int .i64 (D.aj (aQ (f (Yy l i)) Z5)+(1:Int))) (aX (Yy l i) (aQ (f (Yy l i)) Z5) f) (Yy l i)) Z5
def ZeB i l:=decide ((0:Int)<=i/\i<(↑(List.length (Db l)):Int))
theorem qfe l out f c i ae:(bif decide (i<ZeA l) then ob (ZeB i l) (ob (bO PR (49:TypeId) (D.nth (Db l) (Ze i))) (ob (bO PR (3:TypeId) (aQ (f (Yy l i)) Z5)) (ob (decide (Z7<=D.aj (aQ (f (Yy l i)) Z5)+(1:Int)/\D.aj (aQ (f (Yy l i)) Z5)+(1:Int)<=Z8)) (ob (ZeB i l) (ob (bO PR (49:TypeId) (D.nth (Db l) (Ze i))) (ob (bO PR (3:TypeId) (ZeE l i f)) (bif D.aj (ZeE l i f)==(1:Int) then ob (ZeB i l) (ob (bO PR (49:TypeId) (D.nth (Db l) (Ze i))) (ob (decide ((0:Int)<=i/\i<(↑(List.length (Tm l)):Int))) (ob (bO PR (108:TypeId) (Yz l i)) (ob (Nat.ble (nX out) (List.length (List.map GX out))&&aG (nX out+List.length (ZeG l i)) 96) (ob (Zh i) (ae (PX.normal,S.mk 50 (ZeH l::ZeI l::(5,P.sl 0 0 (nX out+List.length (ZeG l i)))::ZeJ l i) ((0,En.mk 0 none (Obj.arr (151:TypeId) false (List.take (nX out) (List.map GX out)++ZeG l i)))::ZeL l i f c)))))))) else ob (Zh i) (ae (PX.normal,S.mk 50 (ZeH l::ZeI l::xV out::ZeJ l i) ((0,ZeM out)::ZeL l i f c)))))))))) else ae (PX.exit 0,S.mk 50 [xV out] [(0,ZeM out)]))=(aD [] [] 74 3 (psH l out f c i)) ae:=by kernel_rfl
def BN(o:List Td) t:=if(o.any λx=>x.1==t.1)=true then o else o++[t]
def Nq(l:List Td):=l.foldl BN []
def gPs:S->K (PX×S):=λst ae=> ∃l,st=psH l [] (λ_=>none) 0 0/\l.length<=1000000/\ ∀m,m=Nq l->ae (.exit 0,⟨50,[(5,.sl 0 0 m.length)],[(0,⟨0,none,Si false m⟩)]⟩)
def qos:a8:=λps R ae=> ∃a b,ps=[.d (GX a),.d (GX b)]/\R=[]/\ae (iD (mY a.1.1 a.1.2.1 a.1.2.2 b.1.1 b.1.2.1 b.1.2.2),[])
def ZeO(a:Td):=P.d (D.agg [D.int .i64 (Prod.fst (Prod.fst a)),D.int .i64 (Prod.fst (Prod.snd (Prod.fst a))),D.int .i64 (Prod.snd (Prod.snd (Prod.fst a)))])
theorem qlS a b ae:(∃t r i t' r' i',[ZeO a,ZeO b]=P.d (D.agg (Zt t::Zt r::ZE i))::ZZ t' r' i'/\Zx/\ae (P.d (D.int .i64 (mY t r i t' r' i')),[]))=(aI [(78,l5)] [] 121 [.d (GX a),.d (GX b)] []) ae:=by kernel_rfl
def PO:=Gs 121 151 GX (λh:Td=>h.1) (λa b=>fc a b)
def ZeR l:=[(0,En.mk 0 (some 0) (Obj.arr (151:TypeId) false (List.map GX l)))]
def ZeQ l:=[P.sl 0 0 (nX l),P.fn (121:FuncId) []]
def ZeP av:=S.mk 50 [ZeH av,ZeI av,(5,ZN),Z6c,(14,P.d (D.int .i64 (ZeA av))),(15,P.d Z5)] [(0,En.mk 0 none (Obj.arr (151:TypeId) false [])),(1,CN)]
theorem qot l ae:(∃av,ZeP l=ZeP av/\PB av/\ ∀m,m=Nq av-> ∃l,ZeQ m=ZeQ l/\ZeR m=ZeR l/\PB l/\ ∀l',List.Perm l' l->List.Pairwise (λ(a b:Td)=>fc (Prod.fst b) (Prod.fst a)=false) l'->ae (P.sl 0 0 (nX m),[(0,ZeM l')]))=(aI [(120,PO)] [(3,ah (aR 74 3) gPs)] 74 [tnP l,tpP l] []) ae:=by kernel_rfl
def qlT:a8:=λps R ae=> ∃l,ps=[tnP l,tpP l]/\R=[]/\l.length<=1000000/\ ∀m,m=l.foldl yu []->ae (.sl 0 0 m.length,[(0,⟨0,none,Si false m⟩)])
theorem qou h:bO PR 151 (GX h)=true:=by kernel_rfl
def Dc(U:List ao)(o:List Td):= ∀x,x∈U↔(o.any λy=>y.1==x)=true
theorem Dc.nil:Dc [] []:=λx=>by simp
theorem Dc.had{U o x}(h:Dc U o)(hx:x∈U):Dc (x::U) o:=λy=>by
 rw[zat,h y];constructor
 ·rintro(rfl |h2)
  ·exact(h _).1 hx
  exact h2
 exact .inr
theorem Dc.new{U o g}(h:Dc U o):Dc (g.1::U) (o++[g]):=λy=>by
 rw[zat,h y,zck,za8];simp only[zdd,zdo,zbW,za1];constructor
 ·rintro(rfl |h2)
  ·exact .inr rfl
  exact .inl h2
 rintro(h2 |rfl)
 ·exact .inr h2
 exact .inl rfl
theorem YA{l:List Td}{i}(h:i<l.length):Nq (l.take (i+1))=BN (Nq (l.take i)) l[i]:=by rw[zaf h];unfold Nq;rw[zaY];rfl
theorem KA{o h}(hx:(o.any λx=>x.1==h.1)=true):BN o h=o:=by unfold BN;rw[zap hx]
theorem KB{o h}(hx:(o.any λx=>x.1==h.1)=false):BN o h=o++[h]:=by unfold BN;rw[zan (by rw[hx];simp)]
theorem YB o t:(BN o t).length<=o.length+1:=by
 unfold BN;split
 ·omega
 simp
theorem GY l:(Nq l).length<=l.length:=by
 have: ∀(l o:List Td),(l.foldl BN o).length<=o.length+l.length:=by
  intro l
  induction l with
  |nil=>intro o;simp
  |cons x r ih=>intro o;have h1:=ih (BN o x);have h2:=YB o x;simp only[zaO,zao];omega
 simpa [Nq] using this l []
def UqT(o:List Td):=(o.map (·.1)).Nodup
theorem qdi{a b:List Td}(h:a.Perm b)(t:Td):(a.any λx=>x.1==t.1)=(b.any λx=>x.1==t.1):=by rw[zaG,za3,za3];exact⟨λ⟨x,hx,e⟩=>⟨x,h.mem_iff.1 hx,e⟩,λ⟨x,hx,e⟩=>⟨x,h.mem_iff.2 hx,e⟩⟩
theorem vF: ∀(l a b:List Td),a.Perm b->UqT a->a.Pairwise (λx y=>RT y x=false)->(l.foldl yu a).Perm (l.foldl BN b)/\UqT (l.foldl yu a)/\(l.foldl yu a).Pairwise (λx y=>RT y x=false)
 | [],_,_,h,hu,hp=>⟨h,hu,hp⟩
 |t::l,a,b,h,hu,hp=>by
  simp only[zaO];have e:=qdi h t;cases hb:(b.any λx=>x.1==t.1) with
  |true=>rw[KA hb,show yu a t=a from zap (e.trans hb)];exact vF l a b h hu hp
  |false=>rw[KB hb,show yu a t=cq RT a t from zan (by rw[e,hb];simp)];have hq:(cq RT a t).Perm (a++[t]):=dI a t;refine vF l _ _ (hq.trans (h.append_right _)) ?_ (KC hp);unfold UqT;rw[(hq.map _).nodup_iff,zaC,zaR];refine⟨hu,by simp,λx hx y hy=> ?_⟩;rw[zdf,zaJ] at hy;subst hy;obtain⟨z,hz,rfl⟩:=zaq.1 hx;intro e2;have:(a.any λx=>x.1==t.1)=true:=za3.2 ⟨z,hz,by rw[e2];exact zbA _⟩;rw[e,hb] at this;cases this
where
 KC {a:List Td} {t:Td} (hp:a.Pairwise (λx y=>RT y x=false)):(cq RT a t).Pairwise (λx y=>RT y x=false):=by
  have h1:(a.map (·.1)).Pairwise (λx y=>fc y x=false):=by rw[zbe];exact hp
  have h2:=uX iq t.1 h1;have h3:(cq RT a t).map (·.1)=cq fc (a.map (·.1)) t.1:=by unfold cq;rw[zbH];exact(congrArg List.reverse (uZ (lt:=fc) (λx:Td=>x.1) t a.reverse)).trans (by rw[zbH])
  rw[<-h3,zbe] at h2;exact h2
theorem qhU{l m:List Td}(hp:m.Perm (Nq l))(hw:m.Pairwise λx y=>fc y.1 x.1=false):m=l.foldl yu []:=by obtain⟨h1,h2,h3⟩:=vF l [] [] (.refl _) (by simp[UqT]) .nil;refine pD iq (λx:Td=>x.1) ?_ (hp.trans h1.symm) hw h3;have hu:(m.map (·.1)).Nodup:=((hp.trans h1.symm).map _).nodup_iff.2 h2;intro x hx y hy e;exact qhV hu x hx y hy e
where
 qhV {m:List Td} (hu:(m.map (·.1)).Nodup): ∀x∈m,∀y∈m,x.1=y.1->x=y:=by
  induction m with
  |nil=>intro x hx;cases hx
  |cons a r ih=>
   rw[za4,za9] at hu;intro x hx y hy e;rcases zat.1 hx with h1 |h1<;>rcases zat.1 hy with h2 |h2
   ·rw[h1,h2]
   ·subst h1;exact absurd (e▸zaU h2) hu.1
   ·subst h2;exact absurd (e▸zaU h1) hu.1
   exact ih hu.2 x h1 y h2 e
theorem qlU:FC 121 qos:=FC.mk (by kernel_rfl) (.cons F9 .nil) (by
 intro ps R ae hh;obtain⟨a,b,rfl,rfl,hp⟩:=hh
 (rw[<-qlS];delta Zx Zt ZE ZZ ZeO)
 exact⟨_,_,_,_,_,_,rfl,rfl,hp⟩)
def qov:D->Td
 | .agg [.int .i64 a,.int .i64 b,.int .i64 c,.int .i64 d,.int .i64 e,.int .i64 f,.int .i64 g,.int .i64 h,.int .i64 i,.str s,.bool z]=>((a,b,c),((d,e,f),(g,h,i),s,z))
 |_=>((0,0,0),((0,0,0),(0,0,0),[],false))
section
variable{X:XF}
theorem YC:FD X 120 PO:=Gt (dec:=qov) (c:=λa b=>mY a.1.1 a.1.2.1 a.1.2.2 b.1.1 b.1.2.1 b.1.2.2)
 (λcf=>FD.rZ Tryz.func120 (by kernel_rfl) (by kernel_rfl) λps R ae h=>lW (iP h)) (λ_=>rfl) iq (λx y=>ff x.1 y.1) (λ_=>⟨_,rfl⟩)
 (λx y=>FC.Vy qlU ⟨x,y,rfl,rfl,rfl⟩) ⟨_,Tryz.func121,by kernel_rfl,by kernel_rfl⟩
theorem qhW:LD X 74 3 (ah (aR 74 3) gPs):=LD.idx (by kernel_rfl) (by kernel_rfl) .nil .nil
 (A:=List Td) (B:=List Td×List ao×Int) (λl b i=>psH l b.1 (cI b.2.1) b.2.2 i) (λl=>l.length) (λl i b=>l.length<=1000000/\b.1=Nq (l.take i)/\Dc b.2.1 b.1/\b.2.1.length<=i)
 (λl x=>x=(.exit 0,⟨50,[(5,.sl 0 0 (Nq l).length)],[(0,⟨0,none,Si false (Nq l)⟩)]⟩))
 (by
  rintro l ⟨o,U,c⟩ i ae h0 bJ bs ⟨qJ,rfl,hU,SP⟩ hn ho;dsimp only at*
  (rw[<-qfe];delta ZeM nX xV Ze Db ZeC Yy Z5 mC ZeK ZeL Zl Zm Tm ZeA Z6c ZeJ ZeI ZeH Z8 Z7 Zh Yz ZeG ZeE ZeB)
  have e1:D.nth ((l.map (·.1)).map aL) i.toNat=aL l[i.toNat].1:=by rw[az _ _ _ (by simpa using bs)];simp
  have e2:D.nth ((l.map (·.2)).map bn) i.toNat=bn l[i.toNat].2:=by rw[az _ _ _ (by simpa using bs)];simp
  rw[e1,e2];simp only[psH,zaa] at hn⊢;have yl:=YA bs;have jT:=GY (l.take i.toNat);rw[zau] at jT;generalize l[i.toNat]=g at yl;have v1: ∀n:Int,D.aj (iE n)=n:=λ_=>rfl;have t1:D.agg [D.int .i64 (D.aj (D.au (aL g.1) 0)),D.int .i64 (D.aj (D.au (aL g.1) 1)),D.int .i64 (D.aj (D.au (aL g.1) 2))]=aL g.1:=rfl;have g0:aQ (cI U (aL g.1)) (.int .i64 0)=iE (U.count g.1:Int):=Yx U g.1;have Hj:=zb9 (a:=g.1) (l:=U);have u2:=λz=>qdh U g.1 z;have u3:=λz=>qhT U g.1 z;have g1:aQ (cI (g.1::U) (aL g.1)) (.int .i64 0)= .int .i64 ((U.count g.1:Int)+1):=by have:=Yx (g.1::U) g.1;rw[zbP] at this;exact this
  have CD:(U.count g.1:Int)=0↔ ¬g.1∈U:=by rw[<-zde];omega
  have hcb:0<=(U.count g.1:Int)/\(U.count g.1:Int)<=1000000:=by omega
  generalize (U.count g.1:Int)=cn at g0 u2 u3 g1 CD hcb;rw[t1,g0];simp only[v1];refine bF (by omega) (ak ⟨h0,bJ⟩ (aq (ga _) (aq (JS _) (ak (by omega) ?_))));rw[u2,g1,u3];refine ak ⟨h0,bJ⟩ (aq (ga _) (aq (JS _) ?_));simp only[v1,zao,zav,zaD];refine JP (λh2=> ?_) λh2=>ak (by omega) (hn (Nq (l.take i.toNat),g.1::U,_) ⟨qJ,?_,hU.had ?_,zcb SP⟩)
  ·refine ak ⟨h0,bJ⟩ (aq (ga _) (ak ⟨h0,bJ⟩ (aq (dX _) (aq ?_ (ak (by omega) ?_)))))
   ·rw[zac];exact⟨by simp,cH (by omega) (by omega)⟩
   have CK:((Nq (l.take i.toNat)).any λx=>x.1==g.1)=false:=by rw[<-za6,<-hU g.1];exact CD.1 (by omega)
   have:=λc':Int=>hn (Nq (l.take i.toNat)++[g],g.1::U,c') ⟨qJ,by rw[yl,KB CK],hU.new,zcb SP⟩;have p0:=b7 GX (Nq (l.take i.toNat)) g;simp only[Si,zaj,zao,zav,zaD] at this;rw[<-p0] at this;exact this _
  ·have hx:g.1∈U:=zaZ λh=>by have:=CD.2 h;omega
   rw[yl,KA ((hU g.1).1 hx)]
  exact zaZ λh=>by have:=CD.2 h;omega)
 (by
  rintro l ⟨o,U,c⟩ i ae hi ⟨qJ,rfl,hU,SP⟩ ho;dsimp only at*
  (rw[<-qfe];delta ZeM nX xV Ze Db ZeC Yy Z5 mC ZeK ZeL Zl Zm Tm ZeA Z6c ZeJ ZeI ZeH Z8 Z7 Zh Yz ZeG ZeE ZeB)
  simp only[zaa];refine dY (λh=>by omega) λh=>ho _ (λh=>by cases h) ?_;rw[zai])
 (by rintro s ae ⟨l,rfl,hs,hp⟩;refine⟨l,([],[],0),by rw[qhS],⟨hs,rfl,Dc.nil,by simp⟩,?_⟩;rintro x rfl;exact hp _ rfl)
theorem qlV:FD X 74 qlT:=FD.mk (by kernel_rfl) (.cons YC .nil) (.cons qhW .nil) (by
 intro ps R ae hh;obtain⟨l,rfl,rfl,hs,hp⟩:=hh
 (rw[<-qot];delta ZeM nX ZeR ZeQ PB Ju CN Z5 Tm Db ZeA Z6c ZN ZeI ZeH ZeP)
 have hdl:=GY l;refine⟨l,rfl,hs,λm hm=>⟨m,rfl,rfl,by rw[hm];omega,λl' Ep hpw=> ?_⟩⟩;subst hm;have e:=qhU Ep hpw;rw[<-Ep.length_eq,e];exact hp _ rfl)
end
theorem GZ{T x}(h:a7 T x=none): ∀p∈T,p.1≠x:=λp hp e=>by have:=zcB.1 h p hp;exact this (by rw[e];exact zbA _)
theorem zl{a b}(hu:Uq a)(h:a.Perm b):Uq b:=((h.map _).nodup_iff).1 hu
theorem Sj{a b}(hu:Uq a)(h:a.Perm b) x:a7 a x=a7 b x:=by
 cases e:a7 a x with
 |some p=>obtain⟨hp,rfl⟩:=bN e;exact(gT (zl hu h) (h.mem_iff.1 hp)).symm
 |none=>
  cases e2:a7 b x with
  |none=>rfl
  |some p=>obtain⟨hp,rfl⟩:=bN e2;exact absurd rfl (GZ e p (h.mem_iff.2 hp))
theorem YD{a b}(hu:Uq a)(h:a.Perm b):cF a=cF b:=by show xF bn (a7 a)=xF bn (a7 b);rw[funext (Sj hu h)]
theorem YE{T k v}(h:cF T k=some v): ∃p∈T,k=aL p.1/\v=bn p:=by
 replace h:xF bn (a7 T) k=some v:=h
 unfold xF at h;split at h
 next a b c=>
  cases e:a7 T (a,b,c) with
  |none=>rw[e] at h;cases h
  |some p=>rw[e] at h;obtain⟨hp,he⟩:=bN e;exact⟨p,hp,by rw[he];rfl,(zbQ h).symm⟩
 cases h
theorem YF{T}(h: ∀k,cF T k=none):T=[]:=by
 cases T with
 |nil=>rfl
 |cons p r=>
  have:=h (aL p.1);rw[nK] at this;have e:a7 (p::r) p.1=some p:=by simp[a7]
  rw[e] at this;cases this
def rk(T:List Pl) x:=T.filter λp=> !(p.1==x)
theorem qdj{T}(hu:Uq T) x:Uq (rk T x):=zdc (zcd.map _) hu
theorem YG{T p}(h:p∈T):(rk T p.1).length<T.length:=by unfold rk;refine zda (zaM _ _) λe=> ?_;have:=zdg.1 e p h;simp at this
theorem YH T {x y}(h:y≠x):a7 (rk T x) y=a7 T y:=by
 unfold a7 rk;rw[List.find?_filter];congr 1;funext p;by_cases e:p.1=y
 ·subst e;simp[h]
 simp[e]
theorem qdk T x:jg (aL x) (cF T)=cF (rk T x):=by
 funext d;by_cases e:aL x=d
 ·subst e;rw[rA,nK];have:a7 (rk T x) x=none:=by unfold a7 rk;rw[zcB];intro p hp;have:=(zbT.1 hp).2;simpa using this
  rw[this];rfl
 rw[yG _ e];show xF bn (a7 T) d=xF bn (a7 (rk T x)) d;unfold xF;split
 next a b c=>have cO:(a,b,c)≠x:=λh=>e (by rw[<-h];rfl);rw[YH T cO]
 rfl
theorem Sk{T}(hu:Uq T){p}(h:p∈T):(p::rk T p.1).Perm T:=by
 induction T with
 |nil=>cases h
 |cons a r ih=>
  unfold Uq at hu;rw[za4,za9] at hu;rcases zat.1 h with rfl |h
  ·have:rk (p::r) p.1=r:=by unfold rk;rw[zcO (by simp)];rw[zc6];intro q hq;have:q.1≠p.1:=λe=>hu.1 (e▸zaU hq);simp[this]
   rw[this]
  have cO:a.1≠p.1:=λe=>hu.1 (e▸zaU h);have:rk (a::r) p.1=a::rk r p.1:=by unfold rk;rw[zcN (by simp[cO])]
  rw[this];exact(List.Perm.swap a p _).trans ((ih hu.2 h).cons a)
theorem qdl{o x}(h:0<=dR o x): ∃(i:Nat) (hi:i<o.length),dR o x=(i:Int)/\o[i].1=x:=by
 rcases pM (λp:Pl=>p.1==x) o with⟨i,p,h1,h2,h3⟩| ⟨h1,_⟩
 ·obtain⟨hi,e⟩:=zae.1 h1;exact⟨i,hi,h3,by rw[e];exact za1.1 h2⟩
 unfold dR at h;omega
theorem KD{o x}:0<=dR o x↔(a7 o x).isSome=true:=by unfold dR a7;rw[GA,List.find?_isSome]
theorem G6{o:List Pl}{i}(hi:i<o.length){q}(e:q.1=o[i].1):(o.set i q).map (·.1)=o.map (·.1):=by
 rw[zb4];apply zbX (by simp);intro j h1 h2;rw[zcS];split
 next h=>subst h;simp[e]
 rfl
theorem qdm{o}(hu:Uq o){i}(hi:i<o.length){q}(e:q.1=o[i].1):aX (aL q.1) (bn q) (cF o)=cF (o.set i q):=by
 refine yS bn (a7 o) (a7 (o.set i q)) q.1 q ?_ ?_
 ·refine gT (T:=o.set i q) ?_ (List.mem_set hi q);unfold Uq;rw[G6 hi e];exact hu
 intro y hy;cases h1:a7 o y with
 |some p=>obtain⟨hp,rfl⟩:=bN h1;refine gT (T:=o.set i q) (by unfold Uq;rw[G6 hi e];exact hu) ?_;obtain⟨j,hj,hjp⟩:=zc3.1 hp;refine zc3.2 ⟨j,by simpa using hj,?_⟩;rw[zcS,zan,hjp];rintro rfl;exact hy (by rw[e,hjp])
 |none=>
  cases h2:a7 (o.set i q) y with
  |none=>rfl
  |some p=>
   obtain⟨hp,rfl⟩:=bN h2;rcases zcF hp with h |h
   ·exact absurd rfl (GZ h1 p h)
   subst h;exact absurd rfl hy
structure KE(o:List Pl):Prop where
 uq:Uq o
 pw:o.Pairwise λa b=>fc b.1 a.1=false
theorem KE.nil:KE []:=⟨by simp[Uq],.nil⟩
theorem qdn{a p}(hp:a.Pairwise λx y=>fc y.1 x.1=false):(cq ltN a p).Pairwise λx y=>fc y.1 x.1=false:=by
 have h1:(a.map (·.1)).Pairwise (λx y=>fc y x=false):=by rw[zbe];exact hp
 have h2:=uX iq p.1 h1;have h3:(cq ltN a p).map (·.1)=cq fc (a.map (·.1)) p.1:=by unfold cq;rw[zbH];exact(congrArg List.reverse (uZ (lt:=fc) (λx:Pl=>x.1) p a.reverse)).trans (by rw[zbH])
 rw[<-h3,zbe] at h2;exact h2
theorem KE.step{o}(h:KE o) t:KE (zh o t)/\((t.2.1=aA\/within o t.2.2.1 t.2.1=true)->zh o t=o)/\
  (¬(t.2.1=aA\/within o t.2.2.1 t.2.1=true)->(∀p,a7 o t.2.1=some p->aX (aL t.2.1) (bn (t.2.1,t.2.2.1,t.2.2.2.1,p.2.2.2)) (cF o)=cF (zh o t)/\(zh o t).length=o.length)/\
   (a7 o t.2.1=none->aX (aL t.2.1) (bn t.2) (cF o)=cF (zh o t)/\(zh o t).length=o.length+1)):=by
 by_cases h1:t.2.1=aA\/within o t.2.2.1 t.2.1=true
 ·have e:zh o t=o:=zap h1;rw[e];exact⟨h,λ_=>rfl,λh2=>absurd h1 h2⟩
 by_cases h2:0<=dR o t.2.1
 ·obtain⟨i,hi,e1,e2⟩:=qdl h2;have e:zh o t=o.set i (t.2.1,t.2.2.1,t.2.2.2.1,o[i].2.2.2):=by unfold zh;rw[zan h1,zap h2,e1,zbR,zab,zad hi];rfl
  have hm:=G6 hi (q:=(t.2.1,t.2.2.1,t.2.2.2.1,o[i].2.2.2)) e2.symm;rw[e];refine⟨⟨by unfold Uq;rw[hm];exact h.uq,?_⟩,λh3=>absurd h3 h1,λ_=>⟨λp hp=>⟨?_,by simp⟩,λhn=> ?_⟩⟩
  ·have:(o.map (·.1)).Pairwise (λa b=>fc b a=false):=by rw[zbe];exact h.pw
   rw[<-hm,zbe] at this;exact this
  ·have:a7 o t.2.1=some o[i]:=by rw[<-e2];exact gT h.uq (zas hi)
   rw[hp] at this;cases this;exact qdm h.uq hi (q:=(t.2.1,t.2.2.1,t.2.2.2.1,o[i].2.2.2)) e2.symm
  rw[KD,hn] at h2;cases h2
 have bI:a7 o t.2.1=none:=by
  rw[KD] at h2;cases e:a7 o t.2.1 with
  |none=>rfl
  |some p=>rw[e] at h2;exact absurd rfl h2
 have e:zh o t=cq ltN o t.2:=by unfold zh;rw[zan h1,zan h2]
 have hq:(cq ltN o t.2).Perm (o++[t.2]):=dI o t.2;have hu:Uq (o++[t.2]):=by unfold Uq;rw[zaC,zaR];refine⟨h.uq,by simp,λx hx y hy=> ?_⟩;rw[zdf,zaJ] at hy;subst hy;obtain⟨z,hz,rfl⟩:=zaq.1 hx;exact GZ bI z hz
 rw[e];refine⟨⟨zl hu hq.symm,qdn h.pw⟩,λh3=>absurd h3 h1,λ_=>⟨λp hp=> ?_,λ_=>⟨?_,by rw[hq.length_eq];simp⟩⟩⟩
 ·rw[bI] at hp;cases hp
 rw[YD (zl hu hq.symm) hq];exact Jv (by rw[bI];rfl)
theorem PQ: ∀(l:List Td) (o:List Pl),KE o->KE (l.foldl zh o)
 | [],_,h=>h
 |t::l,_,h=>PQ l _ (h.step t).1
theorem G7 l:KE (r8 l):=PQ l [] .nil
theorem YI{t:List Td}{i}(h:i<t.length):r8 (t.take (i+1))=zh (r8 (t.take i)) t[i]:=by rw[zaf h];unfold r8;rw[zaY];rfl
theorem qhX{l m}(hp:m.Perm (r8 l))(hw:m.Pairwise λx y=>fc y.1 x.1=false):m=r8 l:=by have hr:=G7 l;have hu:Uq m:=zl hr.uq hp.symm;refine pD iq (λx:Pl=>x.1) (λx hx y hy e=> ?_) hp hw hr.pw;have h1:=gT hu hx;have h2:=gT hu hy;rw[e,h2] at h1;exact(zbQ h1).symm
abbrev qlW(x:ao):Obj:= .box 49 [iD x.1,iD x.2.1,iD x.2.2]
abbrev YJ(z:Bool)(l:List Pl):Obj:= .arr 108 z (l.map bn)
abbrev qhY(f:D->Option D)(c:Int)(x up:ao)(n i:Int):S:=⟨30,[(0,.mp 0 0),(5,.ref 1 0 0),(6,.ref 2 0 0),(11,iD n),(12,iD i)],[(0,⟨0,some 0,Tk f c⟩),(1,⟨0,none,qlW x⟩),(2,⟨0,none,qlW up⟩)]⟩
def ZeT f c:=(0,En.mk 0 (some 0) (nP f c))
def ZeS:=(0,P.mp 0 0)
def ZeU(ae:PX×S->Prop) f c:=ae (PX.exit 0,S.mk 30 [ZeS] [ZeT f c])
theorem qhZ f c x up n i ae:(bif ZH i n then ob (bO PR (108:TypeId) (aQ (f (gS x)) xG)) (bif Z8d x up then ZeU ae f c else bif !Option.isSome (f (gS x)) then ae (PX.ret,S.mk 30 [ZeS,(8,P.d Z2)] [ZeT f c]) else ob (Zh i) (ae (PX.normal,S.mk 30 [ZeS,(5,je),(6,vp),(11,P.d (Zt n)),(12,Zm i)] (ZeT f c::(1,Z3n f x)::Pe up)))) else ZeU ae f c)=(aD [] [] 75 2 (qhY f c x up n i)) ae:=by kernel_rfl
def qlX:S->K (PX×S):=λs ae=> ∃T c x up n,s=qhY (cF T) c x up n 0/\(0<=n/\n<=1000001)/\(cB T n.toNat x up=true->ae (.exit 0,⟨30,[(0,.mp 0 0)],[(0,⟨0,some 0,Tk (cF T) c⟩)]⟩))/\(cB T n.toNat x up=false->ae (.ret,⟨30,[(0,.mp 0 0),(8,.d (.bool false))],[(0,⟨0,some 0,Tk (cF T) c⟩)]⟩))
def ZeW T mF:=Obj.map 49 (λx=>match x with |D.agg [D.int .i64 a,D.int .i64 b,D.int .i64 c]=>Option.map bn (a7 T (a,b,c))|_=>none) mF false
def ZeX T mF:=[(0,En.mk 0 (some 0) (ZeW T mF))]
def ZeV iC:=[ZeS,(5,je),(6,vp),(11,P.d (Zt iC)),(12,P.d Z5)]
theorem qlY f c x up n ae:(∃T mF bm qh0 iC,S.mk 30 (ZeV n) (ZeT f c::(1,nS x)::Pe up)=S.mk 30 (ZeV iC) ((0,En.mk 0 (some 0) (ZeW T mF))::(1,nS bm)::Pe qh0)/\((0:Int)<=iC/\iC<=(1000001:Int))/\(cB T (Ze iC) bm qh0=true->ae (ZL,ZeX T mF))/\(cB T (Ze iC) bm qh0=false->ae (P.d Z2,ZeX T mF)))=(aI [] [(2,ah (aR 75 2) qlX)] 75 [.mp 0 0,.d (aL x),.d (aL up),iD n] [(0,⟨0,some 0,Tk f c⟩)]) ae:=by kernel_rfl
def qlZ:a8:=λps R ae=> ∃T c x up n,ps=[.mp 0 0,.d (aL x),.d (aL up),iD n]/\R=[(0,⟨0,some 0,Tk (cF T) c⟩)]/\(0<=n/\n<=1000001)/\ ∀b,b=cB T n.toNat x up->ae (.d (.bool b),[(0,⟨0,some 0,Tk (cF T) c⟩)])
abbrev re3(m:List Td)(f:D->Option D)(c i:Int):S:=⟨72,[(5,.mp 0 0),(17,.sl 1 0 m.length),(18,iD (m.length:Int)),(19,iD i)],[(0,⟨0,none,Tk f c⟩),(1,⟨0,none,Si false m⟩)]⟩
def HM:=(5,P.mp 0 0)
def YK:=[HM]
def zm m i:=D.nth (List.map GX m) (Ze i)
def Zf5 m i:=D.int .i64 (D.aj (D.au (zm m i) KY))
def Zf4 m i:=D.int .i64 (D.aj (D.au (zm m i) (A2+1)))
def Zf3 m i:=D.int .i64 (D.aj (D.au (zm m i) A2))
def Zf2 m i:=D.agg [D.int .i64 (D.aj (D.au (zm m i) 3)),D.int .i64 (D.aj (D.au (zm m i) 4)),D.int .i64 (D.aj (D.au (zm m i) 5))]
def Zf1 m:=[(1,ZeM m)]
def Zf0 m i:=[HM,(17,P.sl 1 0 (nX m)),(18,P.d (D.int .i64 (↑(nX m):Int))),(19,Zm i)]
theorem qff m f c i ae:(bif ZaI i m then ob (ZaN i m) (ob (decide (Ze i<List.length (List.map GX m))) (ob (bO PR (151:TypeId) (zm m i)) (bif D.aj (D.au (zm m i) 3)==(0:Int)&&(D.aj (D.au (zm m i) 4)==(0:Int)&&true)&&(D.aj (D.au (zm m i) 5)==(0:Int)&&true) then ob (Zh i) (ae (PX.normal,S.mk 72 (Zf0 m i) ((0,D5 f c)::Zf1 m))) else ob (Zh c) (∃T mF x up n,[P.mp 0 0,P.d (D.agg [D.int .i64 (D.aj (D.au (zm m i) 6)),D.int .i64 (D.aj (D.au (zm m i) 7)),D.int .i64 (D.aj (D.au (zm m i) 8))]),P.d (Zf2 m i),Zm c]=P.mp 0 0::P.d (gS x)::P.d (gS up)::Zv n/\[ZeT f c]=ZeX T mF/\((0:Int)<=n/\n<=(1000001:Int))/\ ∀b,b=cB T (Ze n) x up->bif b then ob (Zh i) (ae (PX.normal,S.mk 72 (Zf0 m i) ((0,En.mk 0 none (ZeW T mF))::Zf1 m))) else ob (bO PR (108:TypeId) (aQ (cF T (Zf2 m i)) xG)) (bif Option.isSome (cF T (Zf2 m i)) then ob (Zh i) (ae (PX.normal,S.mk 72 (Zf0 m i) ((0,En.mk 0 none (Obj.map 49 (λk'=>bif D.gH (D.agg [Zf3 m i,Zf4 m i,Zf5 m i]) k' then some (D.agg [Zf3 m i,Zf4 m i,Zf5 m i,D.int .i64 (D.aj (D.au (zm m i) (KY+1))),D.int .i64 (D.aj (D.au (zm m i) MB)),D.int .i64 (D.aj (D.au (zm m i) (MB+1))),D.str (D.cJ (D.au (zm m i) (MB+1+1))),D.bool (D.dp (D.au (aQ (cF T (D.agg [Zf3 m i,Zf4 m i,Zf5 m i])) Z7C) MB))]) else cF T k') (bif Option.isSome (cF T (Zf2 m i)) then mF else mF+(1:Int)) false))::Zf1 m))) else ob (Zh i) (ae (PX.normal,S.mk 72 (Zf0 m i) ((0,En.mk 0 none (Obj.map 49 (λk'=>bif D.gH (D.agg [Zf3 m i,Zf4 m i,Zf5 m i]) k' then some (D.agg [Zf3 m i,Zf4 m i,Zf5 m i,D.int .i64 (D.aj (D.au (zm m i) (KY+1))),D.int .i64 (D.aj (D.au (zm m i) MB)),D.int .i64 (D.aj (D.au (zm m i) (MB+1))),D.str (D.cJ (D.au (zm m i) (MB+1+1))),D.bool (D.dp (D.au (zm m i) (MB+1+1+1)))]) else cF T k') (bif Option.isSome (cF T (Zf2 m i)) then mF else mF+(1:Int)) false))::Zf1 m)))))))) else ae (PX.exit 0,S.mk 72 YK [(0,D5 f c)]))=(cC [(75,qlZ)] [] [] 46 3 (re3 m f c i)) ae:=by kernel_rfl
def ql0:S->K (PX×S):=λs ae=> ∃m,s=re3 m (λ_=>none) 0 0/\m.length<=1000000/\ ∀o,o=r8 m->ae (.exit 0,⟨72,[(5,.mp 0 0)],[(0,⟨0,none,Tk (cF o) (o.length:Int)⟩)]⟩)
abbrev YL(o:List Pl)(n:Nat)(g:D->Option D)(e:Option (D×D)):S:=⟨72,[(11,.sl 0 0 n),(60,.ref 1 0 0)],[(0,⟨0,none,YJ false o⟩),(1,⟨0,none,.iter 49 108 g e⟩)]⟩
def Zf7 x:=D.agg [SR x,Z78 x,Z79 x,D.int .i64 (D.aj (D.au x 3)),D.int .i64 (D.aj (D.au x 4)),D.int .i64 (D.aj (D.au x 5)),D.str (D.cJ (D.au x 6)),D.bool (D.dp (D.au x 7))]
theorem qh1 o (n:Nat) g e ae:((∀k x,g k=some x->ob (bO PR (49:TypeId) k) (ob (bO PR (108:TypeId) x) (ob (Nat.ble n (nQ o)&&aG (n+List.length [Zf7 x]) 72) (ae (PX.normal,S.mk 72 [(11,P.sl 0 0 (n+List.length [Zf7 x])),(60,je)] [(0,En.mk 0 none (Obj.arr (108:TypeId) false (List.take n (eu o)++[Zf7 x]))),(1,En.mk 0 none (Obj.iter 49 108 (λk'=>bif Z77 k k' then none else g k') (some (J1 k,Zf7 x))))])))))/\(SQ g->ae (PX.exit 2,S.mk 72 [(11,ZB n)] (r7 o))))=(cC [] [] [] 46 14 (YL o n g e)) ae:=by kernel_rfl
def qfg:S->K (PX×S):=λs ae=> ∃T,s=YL [] 0 (cF T) none/\(T.length<=1000000/\Uq T)/\ ∀out,out.Perm T->ae (.exit 2,⟨72,[(11,.sl 0 0 out.length)],[(0,⟨0,none,YJ false out⟩)]⟩)
def qow:a8:=λps R ae=> ∃a b,ps=[.d (bn a),.d (bn b)]/\R=[]/\ae (iD (mY a.1.1 a.1.2.1 a.1.2.2 b.1.1 b.1.2.1 b.1.2.2),[])
theorem ql1 a b ae:(∃t r i t' r' i',[P.d (Z8N a),P.d (Z8N b)]=P.d (D.agg (Zt t::Zt r::ZE i))::ZZ t' r' i'/\Zx/\ae (P.d (D.int .i64 (mY t r i t' r' i')),[]))=(aI [(78,l5)] [] 77 [.d (bn a),.d (bn b)] []) ae:=by kernel_rfl
def PS:=Gs 77 108 bn (λp:Pl=>p.1) (λa b=>fc a b)
def Zfa T:=S.mk 72 [(11,ZN),(60,je)] [(0,xQ),(1,En.mk 0 none (Obj.iter 49 108 (λx=>match x with |D.agg [D.int .i64 a,D.int .i64 b,D.int .i64 c]=>Option.map bn (a7 T (a,b,c))|_=>none) none))]
def Zf9 cg:=S.mk 72 [HM,(17,P.sl 1 0 (nX cg)),(18,P.d (D.int .i64 (↑(nX cg):Int))),(19,P.d Z5)] ((0,CN)::Zf1 cg)
def Zf8 av:=[P.d (D.sl 3 (Db av)),P.d (D.sl 8 (Tm av))]
theorem qox l ae:(∃av,Zf8 l=Zf8 av/\Zx/\PB av/\ ∀m,m=List.foldl yu [] av-> ∃cg,Zf9 m=Zf9 cg/\PB cg/\ ∀o,o=r8 cg->ob (decide ((0:Int)<=(0:Int)/\(0:Int)<=pV o/\pV o<=Z8/\(72:Int)*pV o<=(281474976710656:Int))) (∃T,Zfa o=Zfa T/\(gx T/\Uq T)/\ ∀out,List.Perm out T-> ∃l,[oS out,P.fn (77:FuncId) []]=[oS l,P.fn (77:FuncId) []]/\SX out=SX l/\gx l/\ ∀l',List.Perm l' l->List.Pairwise (λ(a b:Pl)=>fc (Prod.fst b) (Prod.fst a)=false) l'->ae (oS out,r7 l')))=(gB [(74,qlT),(76,PS)] [] [(3,ah (aR 46 3) ql0),(14,ah (aR 46 14) qfg)] 46 [tnP l,tpP l] []) ae:=by kernel_rfl
def G8:a8:=λps R ae=> ∃l,ps=[tnP l,tpP l]/\R=[]/\l.length<=1000000/\ ∀o,o=r8 (l.foldl yu [])->ae (.sl 0 0 o.length,[(0,⟨0,none,YJ false o⟩)])
theorem ql2(x y:ao):(x.1==y.1&&(x.2.1==y.2.1&&true)&&(x.2.2==y.2.2&&true))=decide (x=y):=by obtain⟨a,b,c⟩:=x;obtain⟨d,e,f⟩:=y;rw[zaG];simp[zdb]
theorem qdo:cF []=λ_=>none:=by funext d;show xF bn (a7 []) d=none;unfold xF;split<;>rfl
theorem BO T x:aQ (cF T (aL x)) (bn qa)=bn ((a7 T x).getD qa):=by rw[nK];cases a7 T x<;>rfl
theorem my T x:(cF T (aL x)).isSome=(a7 T x).isSome:=by rw[nK,zdj]
section
variable{X:XF}
theorem qdp:LD X 75 2 (ah (aR 75 2) qlX):=LD.par (by kernel_rfl) (by kernel_rfl) .nil .nil
 (A:=List Pl×Int×ao×Int×ao) (B:=ao×Int) (λa b=>qhY (cF a.1) a.2.1 b.1 a.2.2.1 a.2.2.2.1 b.2)
 (λa b=>(0<=b.2/\b.2<=a.2.2.2.1/\a.2.2.2.1<=1000001)/\cB a.1 (a.2.2.2.1-b.2).toNat b.1 a.2.2.1=cB a.1 a.2.2.2.1.toNat a.2.2.2.2 a.2.2.1)
 (λa b=>(a.2.2.2.1-b.2).toNat)
 (λa x=>(cB a.1 a.2.2.2.1.toNat a.2.2.2.2 a.2.2.1=true/\x=(.exit 0,⟨30,[(0,.mp 0 0)],[(0,⟨0,some 0,Tk (cF a.1) a.2.1⟩)]⟩))\/(cB a.1 a.2.2.2.1.toNat a.2.2.2.2 a.2.2.1=false/\x=(.ret,⟨30,[(0,.mp 0 0),(8,.d (.bool false))],[(0,⟨0,some 0,Tk (cF a.1) a.2.1⟩)]⟩)))
 (by
  rintro⟨T,c,up,n,x0⟩ ⟨x,i⟩ ⟨⟨h0,h1,h2⟩,hv⟩;dsimp only at*
  (rw[<-qhZ];delta gj gk gy fQ fR nS Pe Z2 oP Z5 xG gS Z3n Zl Zm Zt vp je Z8 Z7 Zh nP ZeT ZeS ZeU Z8d ZH)
  have z0:D.agg [D.int .i64 0,D.int .i64 0,D.int .i64 0,D.int .i64 0,D.int .i64 0,D.int .i64 0,D.str [],D.bool false]=bn qa:=rfl;have k0:D.agg [D.int .i64 x.1,D.int .i64 x.2.1,D.int .i64 x.2.2]=aL x:=rfl;rw[z0,k0,BO,my,ql2];generalize hV:cB T n.toNat x0 up=V at*
  refine dY (λh=> ?_) λh=> ?_
  ·obtain⟨m,hm⟩: ∃m,(n-i).toNat=m+1:=⟨(n-i).toNat-1,by omega⟩
   rw[hm] at hv;refine aq (dX _) (dY (λe=> ?_) λe=> ?_)
   ·rw[show cB T (m+1) x up=true from zap e] at hv;exact .inl ⟨hv.symm,rfl⟩
   have hw:cB T (m+1) x up=(match a7 T x with |none=>false |some p=>cB T m p.2.1 up):=zan e;rw[hw] at hv;cases hp:a7 T x with
   |none=>rw[hp] at hv;refine kJ rfl (.inr ⟨hv.symm,rfl⟩)
   |some p=>
    rw[hp] at hv;refine fJ rfl (ak (by omega) ⟨_,?_,(p.2.1,i+1),rfl,⟨⟨by dsimp only;omega,by dsimp only;omega,h2⟩,?_⟩,rfl⟩)
    ·dsimp only;omega
    dsimp only;rw[show(n-(i+1)).toNat=m by omega];exact hv
  rw[show(n-i).toNat=0 by omega] at hv;exact .inl ⟨hv.symm,rfl⟩)
 (by
  rintro s ae ⟨T,c,x,up,n,rfl,hn,h1,h2⟩;refine⟨(T,c,up,n,x),(x,0),rfl,⟨⟨zbF _,hn.1,hn.2⟩,by dsimp only;rw[Int.sub_zero]⟩,?_⟩;rintro z (⟨h,rfl⟩| ⟨h,rfl⟩)
  ·exact h1 h
  exact h2 h)
theorem ql3:FD X 75 qlZ:=FD.mk (by kernel_rfl) .nil (.cons qdp .nil) (by
 intro ps R ae hh;obtain⟨T,c,x,up,n,rfl,rfl,hn,hp⟩:=hh
 (rw[<-qlY];delta Z2 ZeW ZeX ZL Ze gj gk gy fQ fR nS Pe nP ZeT Z5 Zt vp je ZeS ZeV)
 exact⟨T,c,x,up,n,rfl,hn,λh=>hp true h.symm,λh=>hp false h.symm⟩)
end
theorem ql4:FC 77 qow:=FC.mk (by kernel_rfl) (.cons F9 .nil) (by
 intro ps R ae hh;obtain⟨a,b,rfl,rfl,hp⟩:=hh
 (rw[<-ql1];delta Zx Zt ZE ZZ Pj Pk Pm Z8N)
 exact⟨_,_,_,_,_,_,rfl,rfl,hp⟩)
def qh2:D->Pl
 | .agg [.int .i64 a,.int .i64 b,.int .i64 c,.int .i64 d,.int .i64 e,.int .i64 f,.str s,.bool z]=>((a,b,c),(d,e,f),s,z)
 |_=>qa
theorem YM{X}:FD X 76 PS:=Gt (dec:=qh2) (c:=λa b=>mY a.1.1 a.1.2.1 a.1.2.2 b.1.1 b.1.2.1 b.1.2.2)
 (λcf=>FD.rZ Tryz.func76 (by kernel_rfl) (by kernel_rfl) λps R ae h=>lW (iP h)) (λ_=>rfl) iq (λx y=>ff x.1 y.1) (λ_=>⟨_,rfl⟩)
 (λx y=>FC.Vy ql4 ⟨x,y,rfl,rfl,rfl⟩) ⟨_,Tryz.func77,by kernel_rfl,by kernel_rfl⟩
section
variable{X:XF}{w0:World}(hX:cz PR w0 X.cf)
include hX
theorem ql5:LN w0 46 3 (ah (aR 46 3) ql0):=LN.idx hX mN (by kernel_rfl) (by kernel_rfl) (by kernel_rfl) (.cons ql3 .nil) .nil .nil
 (A:=List Td) (B:=Unit) (λm _ i=>re3 m (cF (r8 (m.take i.toNat))) ((r8 (m.take i.toNat)).length:Int) i) (λm=>m.length) (λm i _=>m.length<=1000000)
 (λm x=>x=(.exit 0,⟨72,[(5,.mp 0 0)],[(0,⟨0,none,Tk (cF (r8 m)) ((r8 m).length:Int)⟩)]⟩))
 (by
  rintro m _ i ae h0 bJ bs hm hn ho
  (rw[<-qff];delta HM YK Z2 Z5 Z7C mC A2 KY MB Ze zm Zf5 Zf4 Zf3 oP xG ZeW ZeX nP ZeT Zt Zv gj gk gy fQ fR gS Zl Zm Zf2 ZeM Zf1 D5 nX Zf0 Z8 Z7 Zh ZaN ZaI)
  have e1:D.nth (m.map GX) i.toNat=GX m[i.toNat]:=az _ _ _ bs;rw[e1];have hr:=(G7 (m.take i.toNat)).step m[i.toNat];have hk:=YI bs;have hl:=rO (m.take i.toNat);rw[zau] at hl;have Hk:(i+1).toNat=i.toNat+1:=by omega
  rw[Hk,hk] at hn;generalize r8 (m.take i.toNat)=o at*
  generalize m[i.toNat]=t at*
  have ql6:(D.aj (D.au (GX t) 3)==0&&(D.aj (D.au (GX t) 4)==0&&true)&&(D.aj (D.au (GX t) 5)==0&&true))=decide (t.2.1=aA):=ql2 t.2.1 (0,0,0);have vM:=hn () hm;simp only[re3,zaa] at vM⊢;rw[ql6];have gQ:i.toNat<m.length:=bs;generalize hc:(o.length:Int)=c;have hcn:(c+1).toNat=o.length+1:=by omega
  have hcb:0<=c/\c<=1000000:=by omega
  refine bF (by omega) (ak ⟨h0,by omega⟩ (ak bs (aq (qou _) (dY (λsv=>ak (by omega) ?_) λsv=>ak (by omega) ⟨o,c,t.2.2.1,t.2.1,c+1,rfl,rfl,⟨by omega,by omega⟩,λb hb=> ?_⟩))))
  ·rw[hr.2.1 (.inl sv),hc] at vM;exact vM
  rw[hcn] at hb;have hb:b=within o t.2.2.1 t.2.1:=hb;cases hw:within o t.2.2.1 t.2.1 with
  |true=>rw[hw] at hb;subst hb;refine kJ rfl (ak (by omega) ?_);rw[hr.2.1 (.inr hw),hc] at vM;exact vM
  |false=>
   rw[hw] at hb;subst hb;have h3:=hr.2.2 (by rw[hw];simp[sv]);refine fJ rfl (aq ?_ ?_)
   ·show bO PR 108 (aQ (cF o (aL t.2.1)) (bn qa))=true;rw[BO];exact dX _
   cases hp:a7 o t.2.1 with
   |some p=>
    obtain⟨u,ul⟩:=h3.1 p hp;refine kJ ?_ (ak (by omega) ?_)
    ·show(cF o (aL t.2.1)).isSome=true;rw[my,hp];rfl
    show ae (PX.normal,re3 m (aX (aL t.2.1) (bn (t.2.1,t.2.2.1,t.2.2.2.1,D.dp (D.au (aQ (cF o (aL t.2.1)) (bn qa)) 7))) (cF o)) (bif (cF o (aL t.2.1)).isSome then c else c+1) (i+1));rw[BO,my,hp];rw[<-u,ul,hc] at vM;exact vM
   |none=>
    obtain⟨u,ul⟩:=h3.2 hp;refine fJ ?_ (ak (by omega) ?_)
    ·show(cF o (aL t.2.1)).isSome=false;rw[my,hp];rfl
    show ae (PX.normal,re3 m (aX (aL t.2.1) (bn t.2) (cF o)) (bif (cF o (aL t.2.1)).isSome then c else c+1) (i+1));rw[my,hp];rw[<-u,ul,show((o.length+1:Nat):Int)=c+1 by omega] at vM;exact vM)
 (by
  rintro m _ i ae hi hm ho
  (rw[<-qff];delta HM YK Z2 Z5 Z7C mC A2 KY MB Ze zm Zf5 Zf4 Zf3 oP xG ZeW ZeX nP ZeT Zt Zv gj gk gy fQ fR gS Zl Zm Zf2 ZeM Zf1 D5 nX Zf0 Z8 Z7 Zh ZaN ZaI)
  simp only[zaa];refine mD (by omega) (ho _ (λh=>by cases h) ?_);rw[show i.toNat=m.length by omega,zai])
 (by rintro s ae ⟨m,rfl,hm,hp⟩;refine⟨m,(),by rw[show r8 (m.take (Int.toNat 0))=[] from rfl,qdo];rfl,hm,?_⟩;rintro x rfl;exact hp _ rfl)
theorem qh3:LN w0 46 14 (ah (aR 46 14) qfg):=LN.par hX mN (by kernel_rfl) (by kernel_rfl) (by kernel_rfl) .nil .nil .nil
 (A:=List Pl) (B:=List Pl×List Pl×Option (D×D)) (λ_ b=>YL b.1 b.1.length (cF b.2.1) b.2.2)
 (λT b=>T.length<=1000000/\Uq b.2.1/\(b.1++b.2.1).Perm T) (λ_ b=>b.2.1.length)
 (λT x=> ∃out:List Pl,out.Perm T/\x=(.exit 2,⟨72,[(11,.sl 0 0 out.length)],[(0,⟨0,none,YJ false out⟩)]⟩))
 (by
  rintro T ⟨out,L,e⟩ ⟨hm,hn,hp⟩;dsimp only at*
  (rw[<-qh1];delta eu Hv r7 ZB SQ Z79 Z78 SR J1 mC Z77 je Zf7 nQ)
  have hl:=hp.length_eq;rw[zaj] at hl;refine⟨λk v hk=> ?_,λbI=> ?_⟩
  ·obtain⟨p,Ep,rfl,rfl⟩:=YE hk;have h0:0<L.length:=zb0 Ep;have uB:=qdk L p.1;have hpu:=b7 bn out p;refine aq (ga _) (aq (dX _) (aq ?_ ⟨_,YG Ep,(out++[p],rk L p.1,some (aL p.1,bn p)),?_,⟨hm,qdj hn _,?_⟩,rfl⟩))
   ·rw[zaa];simp[aG];omega
   ·show _=YL (out++[p]) (out++[p]).length (cF (rk L p.1)) (some (aL p.1,bn p));simp only[YL,YJ];rw[<-uB,<-hpu,zaj];rfl
   dsimp only;refine List.Perm.trans ?_ hp;rw[zaK];exact(Sk hn Ep).append_left out
  have:=YF bI;subst this;exact⟨out,by simpa using hp,rfl⟩)
 (by rintro s ae ⟨T,rfl,⟨hm,hu⟩,hp⟩;refine⟨T,([],T,none),rfl,⟨hm,hu,by simp⟩,?_⟩;rintro x ⟨out,h1,rfl⟩;exact hp out h1)
theorem ql7:ND w0 46 G8:=ND.mk hX mN (by kernel_rfl) (by kernel_rfl) (.cons qlV (.cons YM .nil)) .nil (.loop (by decide) (ql5 hX).T (.loop (by decide) (qh3 hX).T .nil)) (by
 intro ps R ae hh;obtain⟨l,rfl,rfl,hl,hp⟩:=hh
 (rw[<-qox];delta eu Hv r7 SV SX fo oS gx xQ je ZN Zfa Z8 pV ZeM Zf1 Ju CN Z5 nX HM Zf9 PB Zx Tm Db Zf8)
 refine⟨l,rfl,rfl,hl,λm hm=> ?_⟩;have hml:m.length<=1000000:=by obtain⟨h1,_,_⟩:=vF l [] [] (.refl _) (by simp[UqT]) .nil;rw[hm,h1.length_eq];exact zaL (GY l) hl
 have hrl:=rO m;refine⟨m,rfl,hml,λo ho=> ?_⟩;have jT:o.length<=1000000:=by rw[ho];omega
 refine aq (iz ⟨by omega,by omega,by omega,by omega⟩) ⟨o,rfl,⟨jT,by rw[ho];exact(G7 m).uq⟩,λout Ep=>⟨out,rfl,rfl,by rw[Ep.length_eq];exact jT,λl' h1 h2=> ?_⟩⟩;have e:l'=r8 m:=qhX (h1.trans (by rw[<-ho];exact Ep)) h2;have e2:out.length=l'.length:=h1.length_eq.symm;rw[e2];exact hp l' (by rw[e,hm]))
end
def zn(L:List D):D->Option D:=λd=>bif L.any (λx=>D.gH x d) then some (.agg []) else none
theorem PT{L:List D}{d}:L.any (λx=>D.gH x d)=true↔d∈L:=by
 rw[za3];constructor
 ·rintro⟨x,hx,h⟩;rwa [<-(D.bS _ _).1 h]
 exact λh=>⟨d,h,(D.bS _ _).2 rfl⟩
theorem ua{L d}(h:d∈L):zn L d=some (.agg []):=by unfold zn;rw[PT.2 h];rfl
theorem wX{L d}(h:d∉L):zn L d=none:=by unfold zn;rw[show L.any (λx=>D.gH x d)=false from Bool.eq_false_iff.2 λe=>h (PT.1 e)];rfl
theorem YN{L k v}(h:zn L k=some v):k∈L/\v= .agg []:=by
 by_cases hk:k∈L
 ·rw[ua hk] at h;exact⟨hk,(zbQ h).symm⟩
 rw[wX hk] at h;cases h
theorem YO{L}(h: ∀k,zn L k=none):L=[]:=by
 cases L with
 |nil=>rfl
 |cons x r=>have:=h x;rw[ua (zbE ..)] at this;cases this
theorem qdq L k:(λk'=>bif D.gH k k' then some (.agg []) else zn L k')=zn (L++[k]):=by
 funext d;cases h:D.gH k d with
 |true=>have:=(D.bS _ _).1 h;subst this;rw[zbY,ua (by simp)]
 |false=>
  have cO:k≠d:=λe=>by rw[(D.bS _ _).2 e] at h;cases h
  rw[zbl];by_cases hd:d∈L
  ·rw[ua hd,ua (by simp[hd])]
  rw[wX hd,wX (by simp[hd,cO.symm])]
def sc(L:List D) k:=L.filter λx=> !D.gH k x
theorem jX{L k d}:d∈sc L k↔d∈L/\d≠k:=by unfold sc;rw[zbT];refine and_congr_right λ_=> ?_;rw[zbv,Bool.eq_false_iff,Ne,D.bS];exact⟨λh e=>h e.symm,λh e=>h e.symm⟩
theorem PU L k:jg k (zn L)=zn (sc L k):=by
 funext d;by_cases e:k=d
 ·subst e;rw[rA,wX λh=>(jX.1 h).2 rfl]
 rw[yG _ e];by_cases hd:d∈L
 ·rw[ua hd,ua (jX.2 ⟨hd,λh=>e h.symm⟩)]
 rw[wX hd,wX λh=>hd (jX.1 h).1]
theorem YP{L k}(h:k∈L):(sc L k).length<L.length:=by unfold sc;refine zda (zaM _ _) λe=> ?_;have:=zdg.1 e k h;rw[(D.bS _ _).2 rfl] at this;cases this
theorem YQ g: ∀(h:List aM) (o:List ao) (x:ao),x∈h.foldl (GD g) o↔x∈o\/ ∃d∈h,d∉g/\d.1=x
 | [],o,x=>by simp
 |d::h,o,x=>by
  rw[zaO,YQ g h];have e:x∈GD g o d↔x∈o\/(d∉g/\d.1=x):=by
   unfold GD;split
   ·rename_i hc;constructor
    ·exact .inl
    rintro(h1 | ⟨h1,rfl⟩)
    ·exact h1
    exact hc.resolve_left h1
   rename_i hc;rw[(dI _ _).mem_iff,zaz,zaJ];refine or_congr_right ⟨λh1=>⟨λh2=>hc (.inl h2),h1.symm⟩,λh1=>h1.2.symm⟩
  rw[e,or_assoc];refine or_congr_right ⟨?_,?_⟩
  ·rintro(h1 | ⟨y,hy,h1⟩)
   ·exact⟨d,zbE ..,h1⟩
   exact⟨y,zaI _ hy,h1⟩
  rintro⟨y,hy,h1⟩;rcases zat.1 hy with rfl |hy
  ·exact .inl h1
  exact .inr ⟨y,hy,h1⟩
theorem Nr g: ∀(h:List aM) (o:List ao),o.Pairwise (λx y=>fc y x=false)->o.Nodup->(h.foldl (GD g) o).Pairwise (λx y=>fc y x=false)/\(h.foldl (GD g) o).Nodup
 | [],_,h1,h2=>⟨h1,h2⟩
 |d::h,o,h1,h2=>by
  rw[zaO];unfold GD;split
  ·exact Nr g h o h1 h2
  rename_i hc;refine Nr g h _ (uX iq _ h1) ((dI _ _).nodup_iff.2 ?_);rw[zaR];refine⟨h2,by simp,λa ha b hb e=>hc (.inr ?_)⟩;rw[zaJ] at hb;subst hb;subst e;exact ha
theorem qh4{h g L}(hn:L.Nodup)(hm: ∀x,x∈L↔ ∃d∈h,d∉g/\d.1=x):bT fc L=C3 h g:=by have hp:=Nr g h [] .nil (by simp);refine(A8 iq ?_ hp.1).symm;refine(zdw hp.2 hn).2 λx=> ?_;rw[hm];have:=YQ g h [] x;simpa using this
abbrev Ns(f:D->Option D)(c:Int):Obj:= .map 121 f c false
abbrev YR(z:Bool)(f:D->Option D)(c:Int):Obj:= .map 49 f c z
abbrev co3(h g:List aM)(f:D->Option D)(c i:Int):S:=⟨31,[(1,eI g),(5,.mp 0 0),(11,eI h),(12,iD ((h.map cV).length:Int)),(13,iD i)],[(0,⟨0,none,Ns f c⟩)]⟩
def Zfc f c:=[(0,En.mk 0 none (Obj.map 121 f c false))]
def Zfb h i k':=D.gH (D.agg [Xf h i,D.int .i64 (D.aj (D.au (ug h i) mC)),D.int .i64 (D.aj (D.au (ug h i) (mC+1))),D.int .i64 (D.aj (D.au (ug h i) A2)),D.int .i64 (D.aj (D.au (ug h i) (A2+1)))]) k'
theorem qfh h g f c i ae:(bif M7 i h then ob (GI i h) (ob (GH h i) (ob (Zh i) (ae (PX.normal,S.mk 31 [vr g,HM,(11,oT h),(12,P.d (D.int .i64 (Ka h))),(13,Zm i)] [(0,En.mk 0 none (Obj.map 121 (λk'=>bif Zfb h i k' then some jd else f k') (bif Option.isSome (f (S2 h i)) then c else c+(1:Int)) false))])))) else ae (PX.exit 0,S.mk 31 (vr g::YK) (Zfc f c)))=(aD [] [] 87 3 (co3 h g f c i)) ae:=by kernel_rfl
def ql8:S->K (PX×S):=λs ae=> ∃h g,s=co3 h g (λ_=>none) 0 0/\h.length<=1000000/\ ∀f c,f=zn (h.map cV)->ae (.exit 0,⟨31,[(1,eI g),(5,.mp 0 0)],[(0,⟨0,none,Ns f c⟩)]⟩)
abbrev co8(g:List aM)(f:D->Option D)(c i:Int):S:=⟨31,[(5,.mp 0 0),(21,eI g),(22,iD ((g.map cV).length:Int)),(23,iD i)],[(0,⟨0,none,Ns f c⟩)]⟩
theorem qfi g f c i ae:(bif M7 i g then ob (GI i g) (ob (GH g i) (ob (Zh i) (ae (PX.normal,S.mk 31 [HM,(21,oT g),(22,P.d (D.int .i64 (Ka g))),(23,Zm i)] [(0,En.mk 0 none (Obj.map 121 (λk'=>bif Zfb g i k' then none else f k') (bif Option.isSome (f (S2 g i)) then c-(1:Int) else c) false))])))) else ae (PX.exit 2,S.mk 31 YK (Zfc f c)))=(aD [] [] 87 8 (co8 g f c i)) ae:=by kernel_rfl
def ql9:S->K (PX×S):=λs ae=> ∃g L c,s=co8 g (zn L) c 0/\g.length<=1000000/\ ∀f c,f=zn ((g.map cV).foldl sc L)->ae (.exit 2,⟨31,[(5,.mp 0 0)],[(0,⟨0,none,Ns f c⟩)]⟩)
def Zfe g:=[HM,(21,oT g),(22,P.d (D.int .i64 (Ka g))),(23,P.d Z5)]
def Zfd bp h_1:=S.mk 31 [vr bp,HM,(11,oT h_1),(12,P.d (D.int .i64 (Ka h_1))),(13,P.d Z5)] [(0,En.mk 0 none (Obj.map 121 (λ_=>none) (0:Int) false))]
theorem qoy h g ae:(∃h_1 bp,Zfd g h=Zfd bp h_1/\tX h_1/\ ∀f c,f=zn (List.map cV h_1)-> ∃g L mF,S.mk 31 (Zfe bp) (Zfc f c)=S.mk 31 (Zfe g) [(0,En.mk 0 none (Obj.map 121 (λd=>bif List.any L λx=>D.gH x d then some jd else none) mF false))]/\tX g/\ ∀f c,f=zn (List.foldl sc L (List.map cV g))->ae (P.mp 0 0,Zfc f c))=(aI [] [(3,ah (aR 87 3) ql8),(8,ah (aR 87 8) ql9)] 87 [eI h,eI g] []) ae:=by kernel_rfl
def hCo:a8:=λps R ae=> ∃h g,ps=[eI h,eI g]/\R=[]/\(h.length<=1000000/\g.length<=1000000)/\ ∀f c,f=zn ((g.map cV).foldl sc (h.map cV))->ae (.mp 0 0,[(0,⟨0,none,Ns f c⟩)])
abbrev lv3(f:D->Option D)(c:Int)(g:D->Option D)(e:Option (D×D)):S:=⟨23,[(5,.mp 0 0),(11,.ref 1 0 0)],[(0,⟨0,none,YR false f c⟩),(1,⟨0,none,.iter 121 103 g e⟩)]⟩
def Zff:=[HM,(11,je)]
theorem qma f c g e ae:((∀k x,g k=some x->ob (bO PR (121:TypeId) k) (ob (bO PR (103:TypeId) x) (ae (PX.normal,S.mk 23 Zff [(0,En.mk 0 none (Obj.map 49 (λk'=>bif Z77 k k' then some jd else f k') (bif Option.isSome (f (J1 k)) then c else c+(1:Int)) false)),(1,En.mk 0 none (Obj.iter 121 103 (λk'=>bif D.gH (D.agg [SR k,D.int .i64 (D.aj (D.au k mC)),D.int .i64 (D.aj (D.au k (mC+1))),D.int .i64 (D.aj (D.au k A2)),D.int .i64 (D.aj (D.au k (A2+1)))]) k' then none else g k') (some (D.agg [SR k,Z78 k,Z79 k,D.int .i64 (D.aj (D.au k 3)),D.int .i64 (D.aj (D.au k 4))],jd))))]))))/\(SQ g->ae (PX.exit 0,S.mk 23 YK [(0,D5 f c)])))=(cC [] [] [] 50 3 (lv3 f c g e)) ae:=by kernel_rfl
def qmb:S->K (PX×S):=λs ae=> ∃L,s=lv3 (λ_=>none) 0 (zn L) none/\(∀d∈L,∃x,d=cV x)/\ ∀V c,V.Nodup->(∀x,x∈V↔ ∃d,cV d∈L/\d.1=x)->V.length<=L.length->ae (.exit 0,⟨23,[(5,.mp 0 0)],[(0,⟨0,none,YR false (cU V) c⟩)]⟩)
abbrev Nt:=133
abbrev qdr:=some ([2],[2])
abbrev kyR(f:D->Option D)(c:Int):List (Nat×En):=[(0,⟨0,some 2,.eJ⟩),(1,⟨0,some 0,.box 160 [.mp 2 0]⟩),(2,⟨0,some 1,YR true f c⟩)]
abbrev kyI(f:D->Option D)(c:Int)(g:D->Option D)(e:Option (D×D)):S:=⟨14,[(0,.mp 0 0),(1,.ref 1 0 0),(5,.ref 3 0 0)],kyR f c++[(3,⟨0,none,.iter 49 103 g e⟩)]⟩
abbrev kyE(f:D->Option D)(c:Int):S:=⟨14,[(0,.mp 0 0),(1,.ref 1 0 0)],kyR f c⟩
abbrev KG(o:List ao)(n:Nat):S:=⟨13,[(2,.ref 0 0 0)],[(0,⟨0,none,.box 50 [.sl 1 0 n]⟩),(1,⟨0,none,fm false o⟩)]⟩
def Zfk:=[JJ]
def Zfj f c:=(2,En.mk 0 (some 1) (Obj.map 49 f c true))
def Zfi:=(1,En.mk 0 (some 0) (Obj.box (160:TypeId) [P.mp 2 0]))
def Zfh:=(0,En.mk 0 (some 2) Obj.eJ)
def Zfg:=[ZeS,(1,je),(5,P.ref 3 0 0)]
theorem qmc f c g e o (n:Nat) ae:((∀k x,g k=some x->ob (bO PR (49:TypeId) k) (ob (bO PR (103:TypeId) x) (ob (Nat.ble n (kU o)&&aG (Z7i n k) 24) (ae (PX.normal,S.mk 14 Zfg [Zfh,Zfi,Zfj f c,(3,Z7b k g)],PX.normal,S.mk 13 Zfk [(0,En.mk 0 none (Obj.box (50:TypeId) [P.sl 1 0 (Z7i n k)])),(1,Z7l n o k)])))))/\(SQ g->ae (PX.exit 0,S.mk 14 [ZeS,(1,je)] [Zfh,Zfi,Zfj f c],PX.normal,S.mk 13 Zfk ((0,En.mk 0 none (Obj.box (50:TypeId) [P.sl 1 0 n]))::ZcZ o))))=(y5 [] [] 178 3 2000000 qdr 2 Nt 1 (kyI f c g e,(.normal,KG o n))) ae:=by kernel_rfl
def gKy:El:=λy ae=> ∃V c,(V.length<=1000000/\V.Nodup)/\y=(kyI (cU V) c (cU V) none,(.normal,KG [] 0))/\ ∀o,o.Perm V->ae (.exit 0,kyE (cU V) c,(.normal,KG o o.length))
abbrev asR(f:D->Option D)(c:Int):List (Nat×En):=[(0,⟨0,some 0,.box 160 [.mp 1 0]⟩),(1,⟨0,some 1,YR false f c⟩)]
abbrev asA(f:D->Option D)(c:Int):S:=⟨13,[(0,.d .e9),(1,.fn Nt [.ref 0 0 0]),(2,.ref 1002 0 0),(4,.sl 1004 0 0),(6,.fn Nt [.ref 0 0 0])],asR f c++[(1002,⟨0,none,.box 50 [.sl 1002000 0 0]⟩),(1004,⟨0,none,fm false []⟩),(1002000,⟨0,none,fm false []⟩)]⟩
def Zfl:=(PX.normal,S.mk 13 Zfk [(0,En.mk 0 none (Obj.box (50:TypeId) [Bu])),(1,tO)])
theorem qmd f c ae:(∃V mF,O3 V/\(S.mk 14 Zfg [Zfh,Zfi,Zfj f c,(3,Z7h f)],Zfl)=(S.mk 14 Zfg [Zfh,Zfi,(2,En.mk 0 (some 1) (Obj.map 49 (λx=>match x with |D.agg [D.int .i64 a,D.int .i64 b,D.int .i64 c]=>Option.map (λ_=>jd) ((λx=>if x∈V then some () else none) (a,b,c))|_=>none) mF true)),(3,En.mk 0 none (Obj.iter 49 103 (λx=>match x with |D.agg [D.int .i64 a,D.int .i64 b,D.int .i64 c]=>Option.map (λ_=>jd) ((λx=>if x∈V then some () else none) (a,b,c))|_=>none) none))],Zfl)/\ ∀o,List.Perm o V->ae (PX.normal,S.mk 13 Zfk ((0,En.mk 0 none (Obj.box (50:TypeId) [P.sl 1 0 (dH o)]))::ZcZ o)))=(Gv [] [] (λfi yt=>if Nat.beq fi Nt&&Nat.beq yt 2 then [(1,ij (aR Nt 1) gKy)] else []) 178 3 2000000 qdr (asA f c)) ae:=by kernel_rfl
def gAs:S->K (PX×S):=λs ae=> ∃V c,s=asA (cU V) c/\(V.length<=1000000/\V.Nodup)/\ ∀o,o.Perm V->ae (.normal,KG o o.length)
def Zfo(V:List ao) mF:=(1,En.mk 0 (some 1) (Obj.map 49 (λx=>match x with |D.agg [D.int .i64 a,D.int .i64 b,D.int .i64 c]=>Option.map (λ_=>jd) ((λx=>if x∈V then some () else none) (a,b,c))|_=>none) mF false))
def Zfp:=[(1002,En.mk 0 none (Obj.box (50:TypeId) [P.sl 1002000 0 0])),(1004,tO),(1002000,tO)]
def Tn:=(0,En.mk 0 (some 0) (Obj.box (160:TypeId) [P.mp 1 0]))
def Zfm:=[(0,P.d D.e9),(1,P.fn (133:FuncId) tK),(2,P.ref 1002 0 0),(4,P.sl 1004 0 0),(6,P.fn (133:FuncId) tK)]
theorem qoz f c ae:(∃V mF,S.mk 13 Zfm (Tn::Gc f c::Zfp)=S.mk 13 Zfm (Tn::Zfo V mF::Zfp)/\O3 V/\ ∀o,List.Perm o V->S3 ae o)=(gB [] [] [(500003,gAs)] 178 [.d .e9,.fn Nt [.ref 0 0 0]] (asR f c)) ae:=by kernel_rfl
def hAs:a8:=λps R ae=> ∃V c,ps=[.d .e9,.fn Nt [.ref 0 0 0]]/\R=asR (cU V) c/\(V.length<=1000000/\V.Nodup)/\ ∀o,o.Perm V->ae (.sl 0 0 o.length,[(0,⟨0,none,fm false o⟩)])
def Zfq:=[P.fn (133:FuncId) tK]
theorem qme f c ae:(∃V mF,P.d D.e9::Zfq=P.d D.e9::Zfq/\[Tn,Gc f c]=[Tn,Zfo V mF]/\O3 V/\ ∀o,List.Perm o V->S3 ae o)=(gB [] [(178,hAs)] [] 131 [.fn Nt [.ref 0 0 0]] (asR f c)) ae:=by kernel_rfl
def qmf:a8:=λps R ae=> ∃V c,ps=[.fn Nt [.ref 0 0 0]]/\R=asR (cU V) c/\(V.length<=1000000/\V.Nodup)/\ ∀o,o.Perm V->ae (.sl 0 0 o.length,[(0,⟨0,none,fm false o⟩)])
theorem qmg f c ae:(∃V mF,Zfq=Zfq/\[Tn,Gc f c]=[Tn,Zfo V mF]/\O3 V/\ ∀o,List.Perm o V-> ∃es,pJ o::Z7o=P.sl 0 0 (List.length es)::Z7o/\MW o=[(0,En.mk 0 (some 0) (Obj.arr (49:TypeId) false es))]/\mW PR sH (78:FuncId) es cfX/\ ∀dh,List.Perm dh es->Z7q dh->ae (pJ o,[(0,za dh)]))=(gB [(132,tS 78 cfX 49)] [(131,qmf)] [] 88 [.fn Nt [.ref 0 0 0],.fn 78 []] (asR f c)) ae:=by kernel_rfl
def qmh:a8:=λps R ae=> ∃V c,ps=[.fn Nt [.ref 0 0 0],.fn 78 []]/\R=asR (cU V) c/\(V.length<=1000000/\V.Nodup)/\ ∀o,o=bT fc V->ae (.sl 0 0 o.length,[(0,⟨0,none,fm false o⟩)])
theorem qmi h g ae:(∃h_1 bp,[oT h,oT g]=[oT h_1,oT bp]/\Zx/\(tX h_1/\tX bp)/\ ∀(f:D->Option D) (_:Int),f=zn (List.foldl sc (List.map cV h_1) (List.map cV bp))-> ∃L,S.mk 23 Zff [(0,CN),(1,En.mk 0 none (Obj.iter 121 103 f none))]=S.mk 23 Zff [(0,CN),(1,En.mk 0 none (Obj.iter 121 103 (λd=>bif List.any L λx=>D.gH x d then some jd else none) none))]/\(∀d,d∈L-> ∃(x:aM),d=D.agg [D.int .i64 (Prod.fst (Prod.fst x)),D.int .i64 (Prod.fst (Prod.snd (Prod.fst x))),D.int .i64 (Prod.snd (Prod.snd (Prod.fst x))),D.int .i64 (Prod.fst (Prod.snd x)),D.int .i64 (Prod.snd (Prod.snd x))])/\ ∀V c,List.Nodup V->(∀x,x∈V↔ ∃d,cV d∈L/\Prod.fst d=x)->dH V<=List.length L-> ∃ew mF,P.fn (133:FuncId) tK::Z7o=P.fn (133:FuncId) tK::Z7o/\[Tn,Zfo V c]=[Tn,Zfo ew mF]/\O3 ew/\ ∀o,o=bT fc ew->S3 ae o)=(gB [(87,hCo)] [(88,qmh)] [(3,ah (aR 50 3) qmb)] 50 [eI h,eI g] []) ae:=by kernel_rfl
def G9:a8:=λps R ae=> ∃h g,ps=[eI h,eI g]/\R=[]/\(h.length<=1000000/\g.length<=1000000)/\ ∀o,o=C3 h g->ae (.sl 0 0 o.length,[(0,⟨0,none,fm false o⟩)])
theorem PV{l:List aM}{i}(h:i<l.length):(l.take (i+1)).map cV=(l.take i).map cV++[cV l[i]]:=by rw[zaf h,zaC];rfl
theorem vG: ∀(g L:List D) (d:D),d∈g.foldl sc L↔d∈L/\d∉g
 | [],L,d=>by simp
 |k::g,L,d=>by rw[zaO,vG g,jX,zat,zcX,zdb]
theorem KH: ∀(g L:List D),(g.foldl sc L).length<=L.length
 | [],L=>zal _
 |k::g,L=>zaL (KH g _) (zaM _ _)
theorem Ha{a b}(h:cV a=cV b):a=b:=by obtain⟨⟨a1,a2,a3⟩,a4,a5⟩:=a;obtain⟨⟨b1,b2,b3⟩,b4,b5⟩:=b;simp only[cV,iE,D.agg.injEq,zbr,D.int.injEq,zcL,zcA] at h;obtain⟨rfl,rfl,rfl,rfl,rfl⟩:=h;rfl
section
variable{X:XF}
theorem qds:LD X 87 3 (ah (aR 87 3) ql8):=LD.idx (by kernel_rfl) (by kernel_rfl) .nil .nil
 (A:=List aM×List aM) (B:=Int) (λa c i=>co3 a.1 a.2 (zn ((a.1.take i.toNat).map cV)) c i) (λa=>a.1.length) (λa _ _=>a.1.length<=1000000)
 (λa x=> ∃c,x=(.exit 0,⟨31,[(1,eI a.2),(5,.mp 0 0)],[(0,⟨0,none,Ns (zn (a.1.map cV)) c⟩)]⟩))
 (by
  rintro⟨h,g⟩ c i ae h0 bJ bs hm hn ho;dsimp only at*
  (rw[<-qfh];delta Zfc HM YK Ze ug S1 Xf S2 jd mC A2 Zfb Zl Zm Ka oT vr Z8 Z7 Zh GH GI M7)
  have e1:D.nth (h.map cV) i.toNat=cV h[i.toNat]:=az _ _ _ bs;have Hk:(i+1).toNat=i.toNat+1:=by omega
  have vM:=λc'=>hn c' hm;rw[Hk,PV bs] at vM;simp only[co3,zaa] at vM⊢;rw[e1];generalize h[i.toNat]=x at*
  rw[<-qdq] at vM;exact bF bJ (ak ⟨h0,bJ⟩ (aq (C4 _) (ak (by omega) (vM _)))))
 (by
  rintro⟨h,g⟩ c i ae hi hm ho;dsimp only at*
  (rw[<-qfh];delta Zfc HM YK Ze ug S1 Xf S2 jd mC A2 Zfb Zl Zm Ka oT vr Z8 Z7 Zh GH GI M7)
  simp only[zaa];refine mD (by omega) (ho _ (λh=>by cases h) ⟨c,?_⟩);rw[show i.toNat=h.length by omega,zai])
 (by rintro s ae ⟨h,g,rfl,hm,hp⟩;refine⟨(h,g),0,rfl,hm,?_⟩;rintro x ⟨c,rfl⟩;exact hp _ c rfl)
theorem qdt:LD X 87 8 (ah (aR 87 8) ql9):=LD.idx (by kernel_rfl) (by kernel_rfl) .nil .nil
 (A:=List aM×List D) (B:=Int) (λa c i=>co8 a.1 (zn (((a.1.take i.toNat).map cV).foldl sc a.2)) c i) (λa=>a.1.length) (λa _ _=>a.1.length<=1000000)
 (λa x=> ∃c,x=(.exit 2,⟨31,[(5,.mp 0 0)],[(0,⟨0,none,Ns (zn ((a.1.map cV).foldl sc a.2)) c⟩)]⟩))
 (by
  rintro⟨g,L⟩ c i ae h0 bJ bs hm hn ho;dsimp only at*
  (rw[<-qfi];delta Zfc HM YK Ze ug S1 Xf S2 mC A2 Zfb Zl Zm Ka oT Z8 Z7 Zh GH GI M7)
  have e1:D.nth (g.map cV) i.toNat=cV g[i.toNat]:=az _ _ _ bs;have Hk:(i+1).toNat=i.toNat+1:=by omega
  have vM:=λc'=>hn c' hm;rw[Hk,PV bs,zaY] at vM;simp only[co8,zaa,zaO,List.foldl_nil] at vM⊢;rw[e1];generalize g[i.toNat]=x at*
  rw[<-PU] at vM;exact bF bJ (ak ⟨h0,bJ⟩ (aq (C4 _) (ak (by omega) (vM _)))))
 (by
  rintro⟨g,L⟩ c i ae hi hm ho;dsimp only at*
  (rw[<-qfi];delta Zfc HM YK Ze ug S1 Xf S2 mC A2 Zfb Zl Zm Ka oT Z8 Z7 Zh GH GI M7)
  simp only[zaa];refine mD (by omega) (ho _ (λh=>by cases h) ⟨c,?_⟩);rw[show i.toNat=g.length by omega,zai])
 (by rintro s ae ⟨g,L,c,rfl,hm,hp⟩;refine⟨(g,L),c,rfl,hm,?_⟩;rintro x ⟨c,rfl⟩;exact hp _ c rfl)
theorem qoA:FD X 87 hCo:=FD.mk (by kernel_rfl) .nil (.cons qds (.cons qdt .nil)) (by
 intro ps R ae hh;obtain⟨h,g,rfl,rfl,⟨h1,h2⟩,hp⟩:=hh
 (rw[<-qoy];delta jd Zfc Z5 Ka oT HM Zfe tX vr Zfd)
 exact⟨h,g,rfl,h1,λf c hf=>⟨g,h.map cV,c,by rw[hf];rfl,h2,λf c hf=>hp f c hf⟩⟩)
end
section
variable{X:XF}{w0:World}(hX:cz PR w0 X.cf)
include hX
theorem qmj:LN w0 50 3 (ah (aR 50 3) qmb):=LN.par hX mN (by kernel_rfl) (by kernel_rfl) (by kernel_rfl) .nil .nil .nil
 (A:=List D) (B:=List ao×List D×Option (D×D)×Int)
 (λ_ b=>lv3 (cU b.1) b.2.2.2 (zn b.2.1) b.2.2.1)
 (λL0 b=>(∀d∈L0,∃x:aM,d=cV x)/\b.1.Nodup/\(∀d∈b.2.1,d∈L0)/\(∀x,x∈b.1↔ ∃d:aM,(cV d∈L0/\cV d∉b.2.1)/\d.1=x)/\b.1.length+b.2.1.length<=L0.length)
 (λ_ b=>b.2.1.length)
 (λL0 x=> ∃V c,V.Nodup/\(∀x,x∈V↔ ∃d:aM,cV d∈L0/\d.1=x)/\V.length<=L0.length/\x=(.exit 0,⟨23,[(5,.mp 0 0)],[(0,⟨0,none,YR false (cU V) c⟩)]⟩))
 (by
  rintro L0 ⟨V,L,e,c⟩ ⟨hd,hn,hs,hv,hl⟩;dsimp only at*
  (rw[<-qma];delta nP D5 HM YK SQ Z79 Z78 mC A2 SR J1 jd Z77 je Zff)
  refine⟨λk x hk=> ?_,λbI=> ?_⟩
  ·obtain⟨fU,qj⟩:=YN hk;obtain⟨d,rfl⟩:=hd k (hs k fU);subst qj;have uB:=PU L (cV d);have qoB:=Gb (V:=V) (x:=d.1);have jT:=YP fU;have hvl:(Ga V d.1).length<=V.length+1:=by
    unfold Ga;split
    ·omega
    simp
   refine aq (C4 d) (aq MX ⟨_,jT,(Ga V d.1,sc L (cV d),some (cV d,.agg []),bif (cU V (aL d.1)).isSome then c else c+1),?_,⟨hd,D8 hn,λy hy=>hs y (jX.1 hy).1,λy=> ?_,?_⟩,rfl⟩)
   ·show _=lv3 (cU (Ga V d.1)) _ (zn (sc L (cV d))) (some (cV d,.agg []));rw[<-uB,<-qoB];rfl
   ·dsimp only;rw[qbw,hv];constructor
    ·rintro(⟨z,⟨h1,h2⟩,h3⟩|rfl)
     ·exact⟨z,⟨h1,λh=>h2 (jX.1 h).1⟩,h3⟩
     exact⟨d,⟨hs _ fU,λh=>(jX.1 h).2 rfl⟩,rfl⟩
    rintro⟨z,⟨h1,h2⟩,h3⟩;by_cases hz:cV z∈L
    ·by_cases E5:cV z=cV d
     ·exact .inr (by rw[<-h3,Ha E5])
     exact absurd (jX.2 ⟨hz,E5⟩) h2
    exact .inl ⟨z,⟨h1,hz⟩,h3⟩
   dsimp only;omega
  have:=YO bI;subst this;refine⟨V,c,hn,λy=> ?_,by simpa using hl,rfl⟩;rw[hv];simp)
 (by
  rintro s ae ⟨L,rfl,hd,hp⟩;refine⟨L,([],L,none,0),by rw[O5],⟨hd,by simp,λd h=>h,λx=> ?_,by simp⟩,?_⟩
  ·constructor
   ·intro h;cases h
   rintro⟨d,⟨h1,h2⟩,_⟩;exact absurd h1 h2
  rintro x ⟨V,c,h1,h2,h3,rfl⟩;exact hp V c h1 h2 h3)
theorem qoC:LY w0 178 3 2 Nt 1 (ij (aR Nt 1) gKy):=LY.par hX (base:=2000000) (keep:=qdr) mN .nil .nil (by kernel_rfl) (by kernel_rfl) (by kernel_rfl)
 (A:=List ao×Int) (B:=List ao×List ao×Option (D×D))
 (λa b=>(kyI (cU a.1) a.2 (cU b.2.1) b.2.2,(.normal,KG b.1 b.1.length)))
 (λa b=>a.1.length<=1000000/\b.2.1.Nodup/\(b.1++b.2.1).Perm a.1)
 (λ_ b=>b.2.1.length)
 (λa x=> ∃o:List ao,o.Perm a.1/\x=(.exit 0,kyE (cU a.1) a.2,(.normal,KG o o.length)))
 (by
  rintro⟨V,c⟩ ⟨out,L,e⟩ ⟨hm,hn,hp⟩;dsimp only at*
  (rw[<-qmc];delta dW sL ZcZ je ZeS SQ Z79 Z78 SR J1 Z7l b9 JJ Zfk jd mC Z77 Z7b Zfj Zfi Zfh Zfg Z7i kU)
  have hl:=hp.length_eq;rw[zaj] at hl;refine⟨λk v hk=> ?_,λbI=> ?_⟩
  ·obtain⟨x,hx,rfl,rfl⟩:=vj hk;have uB:=zb hn x;have h0:0<L.length:=zb0 hx;have hlen:(L.erase x).length<L.length:=by rw[zcg hx];omega
   have hpu:=b7 aL out x;refine aq (ga x) (aq MX (aq ?_ ⟨_,hlen,(out++[x],L.erase x,some (aL x,.agg [])),?_,⟨hm,hn.erase _,?_⟩,rfl⟩))
   ·rw[zaa];simp[aG];omega
   ·show _=(kyI (cU V) c (cU (L.erase x)) (some (aL x,.agg [])),(PX.normal,KG (out++[x]) (out++[x]).length))
    simp only[kyI,KG,fm];rw[<-uB,<-hpu,zaj];rfl
   simp only;refine List.Perm.trans ?_ hp;rw[zaK];exact(zc2 hx).symm.append_left out
  have:=vn bI;subst this;exact⟨out,by simpa using hp,rfl⟩)
 (by rintro y ae ⟨V,c,⟨hm,hn⟩,rfl,hp⟩;refine⟨(V,c),([],V,none),rfl,⟨hm,hn,by simp⟩,?_⟩;rintro x ⟨o,h1,rfl⟩;exact hp o h1)
theorem qoD:FN w0 178 3 gAs:=FN.mk hX mN .nil .nil (base:=2000000) (keep:=qdr) (by kernel_rfl) (hk:=λfi yt=>if Nat.beq fi Nt&&Nat.beq yt 2 then [(1,ij (aR Nt 1) gKy)] else [])
 (by
  intro fi yt h CZ hl;split at hl
  next hb=>
   rw[zac] at hb;have e1:=zag hb.1;have e2:=zag hb.2;subst e1 e2;unfold lk at hl;split at hl
   next he=>have e3:=zag he;subst e3;cases hl;exact⟨by kernel_rfl,qoC hX⟩
   cases hl
  cases hl)
 (by
  rintro s ae ⟨V,c,rfl,hm,hp⟩
  (rw[<-qmd];delta dW sL ZcZ dH b9 JJ Zfk jd tO Bu Zfl Z7h Zfj Zfi Zfh je ZeS Zfg j8 O3)
  exact⟨V,c,hm,rfl,hp⟩)
theorem qoE:ND w0 178 hAs:=ND.mk hX mN (by kernel_rfl) (by kernel_rfl) .nil .nil (.range (qoD hX) .nil) (by
 intro ps R ae hh;obtain⟨V,c,rfl,rfl,hm,hp⟩:=hh
 (rw[<-qoz];delta dW sL vP dH pJ S3 j8 O3 jd Zfo tO Zfp nP Gc Tn b9 tK Zfm)
 exact⟨V,c,rfl,hm,hp⟩)
theorem qmk:ND w0 131 qmf:=ND.mk hX mN (by kernel_rfl) (by kernel_rfl) .nil (.cons (qoE hX) .nil) .nil (by
 intro ps R ae hh;obtain⟨V,c,rfl,rfl,hm,hp⟩:=hh
 (rw[<-qme];delta dW sL vP dH pJ S3 j8 O3 jd Zfo nP Gc Tn b9 tK Zfq)
 exact⟨V,c,rfl,rfl,hm,hp⟩)
theorem qml:ND w0 88 qmh:=ND.mk hX mN (by kernel_rfl) (by kernel_rfl) (.cons J2 .nil) (.cons (qmk hX) .nil) .nil (by
 intro ps R ae hh;obtain⟨V,c,rfl,rfl,⟨hm,hn⟩,hp⟩:=hh
 (rw[<-qmg];delta za Z7q dW Z7t MW Z7o dH pJ j8 O3 jd Zfo nP Gc Tn b9 tK Zfq)
 refine⟨V,c,rfl,rfl,⟨hm,hn⟩,λo ho=>⟨o.map aL,by rw[zaa],rfl,WK o (by rw[ho.length_eq];exact hm),λdh h1 h2=> ?_⟩⟩;obtain⟨l2,rfl,h3⟩:=WL aL qb8 (λ_=>rfl) h1;rw[zbe] at h2;have e:=A8 iq (h3.trans ho) (h2.imp λ{a b} h=>by rw[pK] at h;simpa using h);rw[<-h3.length_eq];exact hp l2 e)
theorem qmm:ND w0 50 G9:=ND.mk hX mN (by kernel_rfl) (by kernel_rfl) (.cons qoA .nil) (.cons (qml hX) .nil) (.loop (by decide) (qmj hX).T .nil) (by
 intro ps R ae hh;obtain⟨h,g,rfl,rfl,⟨hm,hg⟩,hp⟩:=hh
 (rw[<-qmi];delta dW sL vP dH pJ S3 j8 O3 jd Zfo Tn Z7o b9 tK Ju CN je HM Zff tX Zx oT)
 refine⟨h,g,rfl,rfl,⟨hm,hg⟩,λf c hf=>⟨(g.map cV).foldl sc (h.map cV),by rw[hf];rfl,λd hd=> ?_,λV c hn hV hl=>⟨V,c,rfl,rfl,⟨?_,hn⟩,λo ho=>hp o ?_⟩⟩⟩
 ·obtain⟨x,_,rfl⟩:=zaq.1 ((vG _ _ _).1 hd).1;exact⟨x,rfl⟩
 ·have:=KH (g.map cV) (h.map cV);rw[zaa] at this;omega
 rw[ho];refine qh4 hn λx=> ?_;rw[hV];constructor
 ·rintro⟨d,h1,h2⟩;obtain⟨h3,h4⟩:=(vG _ _ _).1 h1;obtain⟨y,hy,e⟩:=zaq.1 h3;have:=Ha e;subst this;exact⟨y,hy,λhg=>h4 (zaU hg),h2⟩
 rintro⟨d,h1,h2,h3⟩;refine⟨d,(vG _ _ _).2 ⟨zaU h1,λh=> ?_⟩,h3⟩;obtain⟨y,hy,e⟩:=zaq.1 h;have:=Ha e;subst this;exact h2 hy)
end
open Classical in
noncomputable def sU(h:a8):TF:=λps R=>if e: ∃y,h ps R (λz=>z=y) then some e.choose else none
def Det(h:a8):= ∀ps R y ae,h ps R (λz=>z=y)->h ps R ae->ae y
theorem jx{h ps R y}(e:sU h ps R=some y):h ps R (λz=>z=y):=by
 unfold sU at e;split at e
 next e2=>rw[<-zbQ e];exact e2.choose_spec
 cases e
noncomputable def XF.tell(X:XF) f (g:TF)(hf:iw f xsB=false):XF:=⟨λf' ps R=>if Nat.beq f f' then g ps R else X.cf f' ps R,λf' h ps R=>by
 show(if Nat.beq f f'=true then g ps R else X.cf f' ps R)=_;rw[zan]
 ·exact X.eq f' h ps R
 intro e;rw[zag e,h] at hf;cases hf⟩
theorem XF.rT{X:XF}{f g}{hf:iw f xsB=false}{w0}(h0:w0.drawn=0)(hX:cz PR w0 X.cf)(hg:CG PR w0 f g):cz PR w0 (X.tell f g hf).cf:=by
 intro jZ ps R p R1 h;have h2:(if Nat.beq f jZ=true then g ps R else X.cf jZ ps R)=some (p,R1):=h;clear h;split at h2
 next e=>have e:=zag e;subst e;exact hg h0 ps R p R1 h2
 exact hX jZ ps R p R1 h2
theorem FD.told{X f fn h}(gC:PR.funcs[f]?=some fn)(hx:iw f xsT=true)(hd:Det h)(hy: ∀ps R ae,h ps R ae-> ∃y,h ps R (λz=>z=y))(hX: ∀ps R,X.cf f ps R=sU h ps R):FD X f h:=
 UI.rZ gC hx λps R ae hp=>by have e:=hy ps R ae hp;refine⟨e.choose,?_,hd ps R _ ae e.choose_spec hp⟩;refine(hX ps R).trans ?_;unfold sU;rw[dif_pos e]
def Zfr bq V qdu:=S.mk 48 (gD::Zel::(3,P.sl 10 0 (fo bq))::(18,P.sl 10 0 (fo bq))::Z2n bq) (Zex V bq qdu)
theorem qh5 V ae:(∃l,[P.d (D.sl 3 (List.take (List.length (cp.A V)) (cp.A V))),P.d (D.sl 8 (List.take (List.length (cp.P V)) (cp.P V)))]=Zf8 l/\Zx/\PB l/\ ∀o,o=r8 (List.foldl yu [] l)-> ∃m ew,Zef o=Zef m/\Ci o V=Ci m ew/\gx m/\ ∀o tl,o=List.filter (jW ew) m-> ∃bq qdu V,Zfr o ew tl=Zfr bq V qdu/\gx bq/\ ∀o',o'=List.map (oM V) bq-> ∃h g,[P.d (D.sl 5 (List.take (List.length (cp.H V)) (cp.H V))),P.d (D.sl 5 (List.take (List.length (cp.L V)) (cp.L V)))]=[oT h,oT g]/\Zx/\(tX h/\tX g)/\ ∀o,o=C3 h g-> ∃l live,[P.d (D.sl 8 (List.take (fo bq) (eu o'++qdu))),R7 o]=[im l,gR live]/\Zx/\(C1 l/\dH live<=1000)/\ae (P.sl 9 0 (List.length (dy (fP l) (sK live))),[Zen V,Zeo V,Zep V,Zeq V,Zer V,Zes V,Zet V,(7,En.mk 0 (some 7) (Obj.arr (121:TypeId) true (cp.H V))),(8,En.mk 0 (some 8) (Obj.arr (121:TypeId) true (cp.L V))),(9,En.mk 0 none (Obj.arr (66:TypeId) false (List.map cv (dy (fP l) (sK live)))))]))=(aI [(46,G8),(47,hDp),(50,G9),(49,pL)] [(4,ah (aR 25 4) qlR)] 25 [.ref 0 0 0] (vwZ false V)) ae:=by kernel_rfl
def Sl V (l:List Td) h g:=dy (fP (((r8 (l.foldl yu [])).filter (jW V)).map (oM V))) (sK (C3 h g))
abbrev qoF(V:cp):List (Nat×En):=[(0,⟨0,some 0,.box 74 [.sl 1 0 V.gs.length,.sl 2 0 V.os.length,.mp 3 0,.sl 4 0 V.A.length,.sl 5 0 V.P.length,.mp 6 0,.sl 7 0 V.H.length,.sl 8 0 V.L.length]⟩),(1,⟨0,some 1,.arr 31 false V.gs⟩),(2,⟨0,some 2,.arr 27 false V.os⟩),(3,⟨0,some 3,.map 27 V.f V.c false⟩),(4,⟨0,some 4,.arr 49 true V.A⟩),(5,⟨0,some 5,.arr 108 true V.P⟩),(6,⟨0,some 6,.map 49 V.d V.n false⟩),(7,⟨0,some 7,.arr 121 true V.H⟩),(8,⟨0,some 8,.arr 121 true V.L⟩)]
def qmn:a8:=λps R ae=> ∃V l h g,ps=[.ref 0 0 0]/\R=vwZ false V/\(V.A=(l.map (·.1)).map aL/\V.P=(l.map (·.2)).map bn/\V.H=h.map cV/\V.L=g.map cV)/\(l.length<=1000/\h.length<=1000/\g.length<=1000000)/\
 ∀x,x=Sl V l h g->ae (.sl 9 0 x.length,qoF V++[(9,⟨0,none,.arr 66 false (x.map cv)⟩)])
theorem KI g: ∀(h:List aM) (o:List ao),(h.foldl (GD g) o).length<=o.length+h.length
 | [],o=>by simp
 |d::h,o=>by have h1:=KI g h (GD g o d);have h2:=Ps g o d;simp only[zaO,zao];omega
theorem YS(l:List Td):(l.foldl yu []).length<=l.length:=by have:=GF l [];simpa using this
section
variable{X:XF}
theorem qmo(h1:FD X 46 G8)(h2:FD X 50 G9)(h3:FD X 49 pL):FD X 25 qmn:=FD.mk (by kernel_rfl) (.cons h1 (.cons qor (.cons h2 (.cons h3 .nil)))) (.cons qdg .nil) (by
 intro ps R ae hh;obtain⟨V,l,h,g,ep,er,⟨hA,hP,hH,hL⟩,⟨hl,hh1,hg1⟩,hp⟩:=hh
 (rw[ep,er,<-qh5];delta Kt Zet Ku Zes Kv Zer Kw Zeq Kx Zep Ky Zeo mZ Zem Zen dH fo C1 dW gR eu im SF R7 tX oT b9 tK Zew Sg Zev Sh Zeu Zex Z5 pV Z2n Zel gD Zfr gx vp Zeb SV Ci je oS Zef nX PB Zx Tm Db Zf8)
 have e1:V.A.take V.A.length=(l.map (·.1)).map aL:=by rw[zai,hA]
 have e2:V.P.take V.P.length=(l.map (·.2)).map bn:=by rw[zai,hP]
 have e3:V.H.take V.H.length=h.map cV:=by rw[zai,hH]
 have e4:V.L.take V.L.length=g.map cV:=by rw[zai,hL]
 have b1:=YS l;have b2:=rO (l.foldl yu []);have b3:=zaM (jW V) (r8 (l.foldl yu []));have b4:(C3 h g).length<=h.length:=by simpa [C3] using KI g h []
 refine⟨l,by rw[e1,e2],rfl,by omega,λo ho=> ?_⟩;have jT:o.length<=1000:=by rw[ho];omega
 refine⟨o,V,rfl,rfl,by omega,λo1 tl ho1=> ?_⟩;have qoG:o1.length<=1000:=by rw[ho1];have:=zaM (jW V) o;omega
 refine⟨o1,tl,V,rfl,by omega,λo2 SA=>⟨h,g,by rw[e3,e4],rfl,⟨by omega,hg1⟩,λov hov=>⟨o2,ov,?_,rfl,⟨by rw[SA,zaa];exact qoG,by rw[hov];omega⟩,?_⟩⟩⟩
 ·have t1:(o2.map bn++tl).take o1.length=o2.map bn:=zci (by rw[SA];simp);have t2:(ov.map aL).take ov.length=ov.map aL:=zak (by simp);rw[t1,t2]
 have:dy (fP o2) (sK ov)=Sl V l h g:=by rw[SA,ho1,ho,hov];rfl
 rw[this];exact hp _ rfl)
end
end Pi
