/- The texts En1 En1H An1 HlP HtP VnP Vn1 An1H An2H W16 Gn3H LsF GnF Vn1H. -/
import Derived.Test.YtdgkdigdflkjhaaGreatDoorEbw
import Derived.Lib.LaidTab
import Derived.Lib.LaidU8T
import Derived.Stop.LaidErr
import Derived.Shelf.Vars
import Derived.Lay
import Derived.Deep.DeepHandedRow
import Derived.SevenTiedAt
import Derived.ProofKit
import Derived.Test.YtdgkdigdflkjhaaGreatDoorRows
namespace Pi
open Go Go.Proofs
set_option maxRecDepth 100000
set_option maxHeartbeats 0
abbrev Sm(e:List En3):Obj:= .arr 47 false (e.map enD)
abbrev enR(V:cp)(e:List En3)(x:List It):List (Nat×En):=[(0,⟨0,none,.box 74 [.sl 1 0 V.gs.length,.sl 2 0 V.os.length,.mp 3 0,.sl 4 0 V.A.length,.sl 5 0 V.P.length,.mp 6 0,.sl 7 0 V.H.length,.sl 8 0 V.L.length]⟩),(1,⟨0,none,.arr 31 false V.gs⟩),(2,⟨0,none,.arr 27 false V.os⟩),(3,⟨0,none,.map 27 V.f V.c false⟩),(4,⟨0,none,.arr 49 true V.A⟩),(5,⟨0,none,.arr 108 true V.P⟩),(6,⟨0,none,.map 49 V.d V.n false⟩),(7,⟨0,none,.arr 121 true V.H⟩),(8,⟨0,none,.arr 121 true V.L⟩),(9,⟨0,none,Sm e⟩),(10,⟨0,none,.arr 66 false (x.map cv)⟩)]
abbrev enH(V:cp)(e:List En3)(n:Nat)(x:List It)(i:Int):S:=⟨40,[(3,.ref 0 0 0),(4,.sl 9 0 n),(12,.sl 10 0 x.length),(13,iD (x.length:Int)),(14,iD i)],enR V e x⟩
def qmp:a8:=λps R ae=>False
def Zfv V:=(8,En.mk 0 none (Obj.arr (121:TypeId) true (cp.L V)))
def Zfu V:=(7,En.mk 0 none (Obj.arr (121:TypeId) true (cp.H V)))
def Zft(x:List It):=(13,P.d (D.int .i64 (↑(List.length x):Int)))
def Zfs x i:=[D.agg [D.str (D.cJ (D.au (J7 x i) 3)),D.bool (D.dp (D.au (J7 x i) 4)),oP]]
theorem qfj V e (n:Nat) x i ae:(bif decide (i<(↑(List.length x):Int)) then ob (decide ((0:Int)<=i/\i<(↑(List.length x):Int))) (ob (Z92 i x) (ob (bO PR (66:TypeId) (J7 x i)) (bif !D.dp (D.au (J7 x i) 4) then False else ob (Nat.ble n (List.length (List.map enD e))&&aG (n+List.length (Zfs x i)) 40) (ob (Zh i) (ae (PX.normal,S.mk 40 [dQ,(4,P.sl 9 0 (n+List.length (Zfs x i))),(12,P.sl 10 0 (List.length x)),Zft x,(14,Zm i)] [(0,En.mk 0 none (Zem V)),(1,En.mk 0 none (Ky V)),(2,En.mk 0 none (Kx V)),(3,En.mk 0 none (Kw V)),(4,En.mk 0 none (Kv V)),(5,En.mk 0 none (Ku V)),(6,En.mk 0 none (Kt V)),Zfu V,Zfv V,(9,En.mk 0 none (Obj.arr (47:TypeId) false (List.take n (List.map enD e)++Zfs x i))),(10,Z9c x)])))))) else ae (PX.exit 0,S.mk 40 [(4,ZB n)] [(0,En.mk 0 none (Obj.arr (47:TypeId) false (List.map enD e)))]))=(cC [(26,qmp)] [] [] 11 4 (enH V e n x i)) ae:=by kernel_rfl
def qmq:S->K (PX×S):=λs ae=> ∃V x,s=enH V [] 0 x 0/\(x.length<=1000000/\ ∀y∈x,y.2.2.1=true)/\ ∀e,e=x.map (λy=>(y.2.1,true,[]))->ae (.exit 0,⟨40,[(4,.sl 0 0 e.length)],[(0,⟨0,none,Sm e⟩)]⟩)
def Zfw bm ew:=S.mk 40 [dQ,(4,R5),(12,P.sl 10 0 (List.length bm)),Zft bm,(14,P.d Z5)] [(0,En.mk 0 none (Zem ew)),(1,En.mk 0 none (Ky ew)),(2,En.mk 0 none (Kx ew)),(3,En.mk 0 none (Kw ew)),(4,En.mk 0 none (Kv ew)),(5,En.mk 0 none (Ku ew)),(6,En.mk 0 none (Kt ew)),Zfu ew,Zfv ew,(9,En.mk 0 none (Obj.arr (47:TypeId) false [])),(10,Z9c bm)]
theorem qmr l ae:(∃av,yw l=yw av/\Zx/\CW av/\ ∀g o f c d n na np nh nl A P H L,g=aJ av->o=c8 av->HJ f o->sa (ml o g) na np nh nl A P H L->kD d (ri g)-> ∃V l h bp,tK=tK/\Zcu g o na np nh nl f c A P d n H L=[Zen V,Zeo V,Zep V,Zeq V,(4,En.mk 0 (some 4) (Obj.arr (49:TypeId) false (cp.A V))),(5,En.mk 0 (some 5) (Obj.arr (108:TypeId) false (cp.P V))),Zet V,Zeu V,Zev V]/\(cp.A V=Db l/\cp.P V=Tm l/\cp.H V=List.map cV h/\cp.L V=List.map cV bp)/\(nX l<=1000/\List.length h<=1000/\tX bp)/\ ∀x,x=Sl V l h bp-> ∃ew bm,Zfw x V=Zfw bm ew/\(List.length bm<=1000000/\ ∀y,y∈bm->Prod.fst (Prod.snd (Prod.snd y))=true)/\ ∀e,e=List.map (λ(y:It)=>(Prod.fst (Prod.snd y),true,[])) bm->ae (Pi.P.sl 0 0 (List.length e),[(0,En.mk 0 none (Obj.arr (47:TypeId) false (List.map enD e)))]))=(gB [(25,qmn)] [(24,qhy)] [(4,ah (aR 11 4) qmq)] 11 [dw l] []) ae:=by kernel_rfl
theorem qms x:bO PR 66 (cv x)=true:=by obtain⟨⟨a,b,c⟩,d,e,f⟩:=x;kernel_rfl
def BP(y:It):En3:=(y.2.1,true,[])
section
variable{X:XF}{w0:World}(hX:cz PR w0 X.cf)
include hX
omit hX in
theorem qmt:FD X 26 qmp:=λps R ae hh=>hh.elim
theorem qmu:LN w0 11 4 (ah (aR 11 4) qmq):=LN.idx hX mN (by kernel_rfl) (by kernel_rfl) (by kernel_rfl) (.cons qmt .nil) .nil .nil
 (A:=cp×List It) (B:=Unit) (λa _ i=>enH a.1 ((a.2.take i.toNat).map BP) (a.2.take i.toNat).length a.2 i) (λa=>a.2.length) (λa _ _=>a.2.length<=1000000/\ ∀y∈a.2,y.2.2.1=true)
 (λa x=>x=(.exit 0,⟨40,[(4,.sl 0 0 (a.2.map BP).length)],[(0,⟨0,none,Sm (a.2.map BP)⟩)]⟩))
 (by
  rintro⟨V,x⟩ _ i ae h0 bJ bs ⟨hm,hd⟩ hn ho;dsimp only at*
  (rw[<-qfj];delta ZB Z9c Zfv Zfu Kt Ku Kv Kw Kx Ky mZ Zem Zl Zm Zft b9 dQ Z8 Z7 Zh oP Ze J7 Zfs Z92)
  have e1:D.nth (x.map cv) i.toNat=cv x[i.toNat]:=az _ _ _ bs;have hdi:=hd _ (zas bs);have nq:x.take (i.toNat+1)=x.take i.toNat++[x[i.toNat]]:=zaf bs;have vM:=hn () ⟨hm,hd⟩;rw[show(i+1).toNat=i.toNat+1 by omega,nq,zaC,zaj] at vM;have hpu:=b7 enD ((x.take i.toNat).map BP) (BP x[i.toNat]);rw[zaa] at hpu;have bK:(x.take i.toNat).length<=x.length:=by rw[zau];omega
  rw[e1];generalize x[i.toNat]=y at*
  generalize x.take i.toNat=q at*
  have c4:D.dp (D.au (cv y) 4)=true:=hdi;have c3:D.cJ (D.au (cv y) 3)=y.2.1:=rfl;rw[c4,c3];refine bF bJ (ak ⟨h0,bJ⟩ (ak (by rw[zaa];exact bs) (aq (qms _) (fJ rfl (aq ?_ (ak (by omega) ?_))))))
  ·rw[zaa,zaa];simp[aG];omega
  have e:D.agg [D.str y.2.1,D.bool true,D.str []]=enD (BP y):=rfl;rw[e,hpu];exact vM)
 (by
  rintro⟨V,x⟩ _ i ae hi ⟨hm,hd⟩ ho;dsimp only at*
  (rw[<-qfj];delta ZB Z9c Zfv Zfu Kt Ku Kv Kw Kx Ky mZ Zem Zl Zm Zft b9 dQ Z8 Z7 Zh oP Ze J7 Zfs Z92)
  refine mD (by omega) (ho _ (λh=>by cases h) ?_);rw[show i.toNat=x.length by omega,zai,zaa])
 (by rintro s ae ⟨V,x,rfl,⟨hm,hd⟩,hp⟩;refine⟨(V,x),(),rfl,⟨hm,hd⟩,?_⟩;rintro z rfl;exact hp _ rfl)
end
def qmv:a8:=λps R ae=> ∃(l:List ar) (x:List It),ps=[dw l]/\R=[]/\CW l/\(∀V:cp,kD V.d (ri (aJ l))->Sl V ((ml (c8 l) (aJ l)).a.zip (ml (c8 l) (aJ l)).p) (ml (c8 l) (aJ l)).h (ml (c8 l) (aJ l)).g=x)/\
 ((ml (c8 l) (aJ l)).a.length=(ml (c8 l) (aJ l)).p.length/\(ml (c8 l) (aJ l)).a.length<=1000/\(ml (c8 l) (aJ l)).h.length<=1000/\(ml (c8 l) (aJ l)).g.length<=1000000)/\(x.length<=1000000/\ ∀y∈x,y.2.2.1=true)/\
 ∀e,e=x.map BP->ae (.sl 0 0 e.length,[(0,⟨0,none,Sm e⟩)])
section
variable{X:XF}{w0:World}(hX:cz PR w0 X.cf)
include hX
theorem qmw(h1:FD X 46 G8)(h2:FD X 50 G9)(h3:FD X 49 pL):ND w0 11 qmv:=ND.mk hX mN (by kernel_rfl) (by kernel_rfl) (.cons (qmo h1 h2 h3) .nil) (.cons (qeS hX) .nil) (.loop (by decide) (qmu hX).T .nil) (by
 intro ps R ae hh;obtain⟨l,x,ep,er,hs,hx,⟨b0,b1,b2,b3⟩,⟨b4,b5⟩,hp⟩:=hh
 (rw[ep,er,<-qmr];delta Z9c Zfv Zfu Kt Ku Kv Kw Kx Ky mZ Zem Z5 Zft R5 b9 dQ Zfw tX nX Tm Db Sg Zev Sh Zeu Zet Zeq Zep Zeo Zen nP vu nU gb nV tT nW S7 Ey eH wR fS rP zj Zcu tK Zx gF yw)
 refine⟨l,rfl,rfl,hs,λg o f c d n na np nh nl A P H L hg ho hf ht hd=> ?_⟩;subst hg ho;have bb: ∀z:ao,∃b,aQ (d (aL z)) (.bool false)= .bool b:=λz=>by
  rw[hd z];cases ri (aJ l) z with
  |none=>exact⟨false,rfl⟩
  |some b=>exact⟨b,rfl⟩
 have e1:na=A.length:=by rw[ht.na,ht.a,zaa]
 have e2:np=P.length:=by rw[ht.np,ht.p,zaa]
 have e3:nh=H.length:=by rw[ht.nh,ht.h,zaa]
 have e4:nl=L.length:=by rw[ht.nl,ht.l,zaa]
 subst e1 e2 e3 e4;have z1:((ml (c8 l) (aJ l)).a.zip (ml (c8 l) (aJ l)).p).map (·.1)=(ml (c8 l) (aJ l)).a:=List.map_fst_zip (by omega);have z2:((ml (c8 l) (aJ l)).a.zip (ml (c8 l) (aJ l)).p).map (·.2)=(ml (c8 l) (aJ l)).p:=List.map_snd_zip (by omega);refine⟨⟨f,d,c,n,(aJ l).map bZ,(c8 l).map bC,A,P,H,L,bb⟩,(ml (c8 l) (aJ l)).a.zip (ml (c8 l) (aJ l)).p,(ml (c8 l) (aJ l)).h,(ml (c8 l) (aJ l)).g,rfl,?_,⟨by rw[z1];exact ht.a,by rw[z2];exact ht.p,ht.h,ht.l⟩,⟨?_,b2,b3⟩,λy hy=>⟨⟨f,d,c,n,(aJ l).map bZ,(c8 l).map bC,A,P,H,L,bb⟩,y,rfl,?_,λe he=>hp e ?_⟩⟩
 ·simp only[zaa]
 ·rw[List.length_zip];omega
 ·rw[hy,hx _ hd];exact⟨b4,b5⟩
 rw[he,hy,hx _ hd];rfl)
end
def KJ:ar:=⟨(1,1),1,[],(0,0),[⟨0,(1,1,0),(0,0,0),[97],true,[],(0,0,0),(0,0,0),[],[]⟩]⟩
def u1A:ar:=⟨(2,1),2,[1],(1,1),[]⟩
def xX:a8:=λps R ae=>(ps=[dw [KJ]]/\R=[]/\ae (.sl 0 0 1,[(0,⟨0,none,Sm [([47,97],true,[])]⟩)]))\/(ps=[dw [KJ,u1A]]/\R=[]/\ae (.sl 0 0 0,[(0,⟨0,none,Sm []⟩)]))
def qh6:a8:=λps R ae=>ps=[dw [KJ,u1A]]/\R=[]/\ae (.sl 0 0 1,[(0,⟨0,none,nj false [(2,1)]⟩)])
def mz:a8:=λps R ae=>ps=[]/\R=[]/\ae (.d (.bool true),[])
def Zfx:=D.agg [ZO,ZO,ZO,Ow,Z5,Z5,D.sl 18 [D.agg (Z5::ZO::ZO::Z5::Z5::Z5::Z5::D.str [(97:UInt8)]::D.bool true::Rs::VJ)]]
def Zfz:=[P.d (D.sl 7 [Zfx,D.agg (Z1I::ZO::Z1I::D.sl 1 [ZO]::ZO::ZO::ZdL)])]
def Zfy:=[P.d (D.sl 7 [Zfx])]
theorem qmx ae:(Zfy=Zfy/\Zx/\(Zfz=Zfy/\Zx/\Z3 ae\/Zfz=Zfz/\Zx/\Zfz=Zfz/\Zx/\ZM ae)\/Zfy=Zfz/\Zx/\(Zfz=Zfy/\Zx/\Z3 ae\/Zfz=Zfz/\Zx/\Z3 ae))=(gB [(11,xX),(13,qh6)] [] [] 8 [] []) ae:=by kernel_rfl
section
variable{i:Int}{l:List ar}(h:bG i l)(hi:0<=i/\i<=1000)
theorem bG.right{i l}(h:bG i l):aJ l=l:=pG h.GO h.nd
include h hi
theorem bG.time:0<=Pi.gE l/\Pi.gE l<=i:=⟨(pH _).1,Wn hi.1 _ λg hg=>(h.sm g hg).2.1.1⟩
theorem bG.qoH r:0<=mxN l r/\mxN l r<=i:=⟨ML l r,Wk l 0 hi.1 λg hg=>(h.sm g hg).2.1.2⟩
theorem bG.next{r}(h1:1<=r)(h2:r<=16):qd7 l r=0:=by have:=h.time hi;have:=h.qoH hi r;unfold qd7;rw[zan (by omega),zan (by omega)]
end
theorem BQ: ∀l on x,x∈on->x∈yZ l on
 | [],_,_,h=>h
 |a::r,on,x,h=>by
  refine BQ r (yY on a) x ?_;unfold yY;split
  ·exact h
  exact zbg _ h
theorem Hb{on a x}(h:x∈yY on a):x∈on\/x=a:=by
 unfold yY at h;split at h
 ·exact .inl h
 rcases zaz.1 h with h |h
 ·exact .inl h
 exact .inr (zaJ.1 h)
theorem zo: ∀f on x,x∈yZ f on->x∈on\/x∈f
 | [],_,_,h=> .inl h
 |a::r,on,x,h=>by
  rcases zo r _ x h with h |h
  ·rcases Hb h with h |rfl
   ·exact .inl h
   exact .inr (.head _)
  exact .inr (.tail _ h)
theorem qdv a:kA a a=false:=mg.IV a
theorem Nu{a b}(h:kA a b=true):a≠b:=λe=>by rw[e,qdv] at h;cases h
theorem PW: ∀f on,f.Pairwise (λa b=>kA b.1 a.1=true)->(∀x∈f,kA x.2 x.1=true)->(∀x∈on,x∉f)-> ∀h∈f,(h∈yZ f on↔ ¬ ∃x∈yZ f on,x.2=h.1)
 | [],_,_,_,_,h,hh=>by cases hh
 |a::r,on,hp,hu,ho,h,hh=>by
  rw[zcy] at hp;have hr: ∀x∈yY on a,x∉r:=by
   intro x hx hxr;rcases Hb hx with hx |rfl
   ·exact ho x hx (.tail _ hxr)
   exact Nu (hp.1 _ hxr) rfl
  rcases zat.1 hh with rfl |hh
  ·have key:(∃x∈yZ r (yY on h),x.2=h.1)↔(∃x∈on,x.2=h.1):=by
    constructor
    ·rintro⟨x,hx,e⟩;rcases zo _ _ _ hx with hx |hx
     ·rcases Hb hx with hx |rfl
      ·exact⟨x,hx,e⟩
      exact absurd e (Nu (hu _ (.head _)))
     have h1:=hu x (.tail _ hx);rw[e] at h1;exact absurd (mg.tr _ _ _ h1 (hp.1 _ hx)) (by rw[mg.IV];simp)
    rintro⟨x,hx,e⟩;refine⟨x,BQ _ _ _ ?_,e⟩;unfold yY;split
    ·exact hx
    exact zbg _ hx
   show h∈yZ r (yY on h)↔ ¬ ∃x∈yZ r (yY on h),x.2=h.1;rw[key];constructor
   ·rintro hm ⟨x,hx,e⟩;have hs:yY on h=on:=by unfold yY;rw[zap (za3.2 ⟨x,hx,by simpa using e⟩)]
    rw[hs] at hm;rcases zo _ _ _ hm with hm |hm
    ·exact ho _ hm (.head _)
    exact Nu (hp.1 _ hm) rfl
   intro hn;refine BQ _ _ _ ?_;unfold yY;rw[zan]
   ·exact zba _ (.head _)
   intro hx;obtain⟨x,hx,e⟩:=za3.1 hx;exact hn ⟨x,hx,by simpa using e⟩
  exact PW r (yY on a) hp.2 (λx hx=>hu x (.tail _ hx)) hr h hh
theorem vH{l}(hn:(l.map (·.1)).Nodup){x}:x∈oE l↔x∈l:=by unfold oE;have:=(bR (lt:=ltH) (r3 l)).mem_iff (a:=x);rwa [qbT hn] at this⊢
theorem Nv{l}:((oE l).map (·.1)).Nodup:=((bR (lt:=ltH) (r3 l)).map (·.1)).nodup_iff.2 (Eh l)
theorem Sn{l}:(oE l).Pairwise λa b=>kA a.1 b.1=true:=by
 have h1:(oE l).Pairwise λa b=>ltH b a=false:=rG mg (λa:Hd=>a.1) _;have h2:(oE l).Pairwise λa b=>a.1≠b.1:=zbe.1 Nv;refine(h1.and h2).imp λ{a b} h=> ?_;cases h3:kA a.1 b.1 with
 |true=>rfl
 |false=>exact absurd (mg.rU _ _ h3 h.1) h.2
theorem YT{l}(hn:(l.map (·.1)).Nodup)(hu: ∀x∈l,kA x.2 x.1=true){s}:s∈Ei l↔(∃h∈l,h.1=s)/\ ∀x∈l,x.2=s->x.1∉Ei l:=by
 have dB: ∀x:aF,x∈Ei l↔ ∃h∈yZ (oE l).reverse [],h.1=x:=by intro x;unfold Ei;rw[zcu,zaq]
 have hf:(oE l).reverse.Pairwise λa b=>kA b.1 a.1=true:=zcq.2 Sn;have iy: ∀x∈yZ (oE l).reverse [],x∈l:=by
  intro x hx;rcases zo _ _ _ hx with hx |hx
  ·cases hx
  exact(vH hn).1 (zcu.1 hx)
 have lS:=PW (oE l).reverse [] hf (λx hx=>hu x ((vH hn).1 (zcu.1 hx))) (λx hx=>by cases hx);have bs: ∀h∈l,(h∈yZ (oE l).reverse []↔h.1∈Ei l):=by
  intro h hh;rw[dB];constructor
  ·exact λhx=>⟨h,hx,rfl⟩
  rintro⟨y,hy,e⟩;have:=u7 hn y (iy y hy) h hh e;rwa [this] at hy
 constructor
 ·intro hs;obtain⟨h,hh,rfl⟩:=(dB s).1 hs;have hl:=iy h hh;refine⟨⟨h,hl,rfl⟩,λx hx e Hx=> ?_⟩;refine(lS h (zcu.2 ((vH hn).2 hl))).1 hh ⟨x,(bs x hx).2 Hx,e⟩
 rintro⟨⟨h,hl,rfl⟩,ix⟩;refine(bs h hl).1 ((lS h (zcu.2 ((vH hn).2 hl))).2 ?_);rintro⟨x,hx,e⟩;exact ix x (iy x hx) e ((bs x (iy x hx)).1 hx)
def uG(t:Int)(on:List aF)(i:Nat):ar:=⟨(t+1+i,5),i+1,if i=0 then [] else [0,0,0,0,(i:Int)],on.getD (on.length-1-i) (0,0),[]⟩
def yz t on n:=(List.range n).map (uG t on)
theorem YU t on n:yz t on (n+1)=yz t on n++[uG t on n]:=by simp[yz,List.range_succ]
theorem PY t on n:(yz t on n).length=n:=by simp[yz]
theorem vI{t on n g}:g∈yz t on n↔ ∃k,k<n/\g=uG t on k:=by simp[yz,zdC]
theorem KK{g}(h:cA g=true):kA g.dZ g.s=true:=by
 have hs:=rR.1 (wS h).1;by_cases hu:g.dZ=(0,0)
 ·rw[hu];exact rS.2 (.inl (by show(0:Int)<g.s.1;omega))
 unfold cA at h;rw[zap hu] at h;simp only[zac] at h;exact h.2.1.2
theorem EO(l:List ar):(l.map j9).map (·.1)=l.map (·.s):=by rw[zb3];rfl
theorem PZ{l:List ar}(h: ∀g∈l,cA g=true): ∀x∈l.map j9,kA x.2 x.1=true:=by intro x hx;obtain⟨g,hg,rfl⟩:=zaq.1 hx;exact KK (h g hg)
theorem YV{l}(hc: ∀g∈l,cA g=true)(hn:(l.map (·.s)).Nodup){s}(hs:s∈c8 l): ∃g∈l,g.s=s:=by unfold c8 at hs;rw[pG hc hn] at hs;obtain⟨x,hx,e⟩:=((YT (by rw[EO];exact hn) (PZ hc)).1 hs).1;obtain⟨g,hg,rfl⟩:=zaq.1 hx;exact⟨g,hg,e⟩
theorem qoI{k:Nat}(h:0<k):cT [0,0,0,0,(k:Int)]=true:=by
 unfold cT;rw[zah];refine⟨by simp,by simp,?_⟩;have:pT [0,0,0,0,(k:Int)] 5=5:=by unfold pT;rw[zan];show ¬(k:Int)=0;omega
 show(List.take (pT [0,0,0,0,(k:Int)] 5) [0,0,0,0,(k:Int)]).length=5;rw[this];rfl
theorem qmy{l k}(hk:k<(c8 l).length):(uG (gE l) (c8 l) k).dZ∈c8 l:=by show(c8 l).getD ((c8 l).length-1-k) (0,0)∈c8 l;rw[zab,zad (by omega)];exact zas _
section
variable{l:List ar}(h:bG 16 l)
include h
theorem bG.qfk:(c8 l).length<=16:=by have h1:=Gq ((aJ l).map j9);have h2:=h.len;rw[zaa,h.right] at h1;unfold c8;rw[h.right];omega
theorem bG.YW{s}(hs:s∈c8 l):JA s=true/\s.1<=Pi.gE l:=by obtain⟨g,hg,rfl⟩:=YV h.GO h.nd hs;exact⟨(wS (h.GO g hg)).1,(pH l).2 g hg⟩
theorem bG.qoJ{k}(hk:k<(c8 l).length):cA (uG (Pi.gE l) (c8 l) k)=true:=by
 have ht:=h.time (by decide);have hl:=h.qfk;have⟨hu,hm⟩:=h.YW (qmy hk);have e1:(uG (Pi.gE l) (c8 l) k).s=(Pi.gE l+1+k,5):=rfl;have e2:(uG (Pi.gE l) (c8 l) k).n=k+1:=rfl;have e5:(uG (Pi.gE l) (c8 l) k).ops=[]:=rfl;have e3:cT (uG (Pi.gE l) (c8 l) k).deps=true:=by
  show cT (if k=0 then [] else [0,0,0,0,(k:Int)])=true;split
  ·rfl
  exact qoI (by omega)
 have e4:eV (uG (Pi.gE l) (c8 l) k).deps 5=k:=by
  show eV (if k=0 then [] else [0,0,0,0,(k:Int)]) 5=k;split
  next h0=>rw[h0];rfl
  rfl
 generalize uG (Pi.gE l) (c8 l) k=g at*
 have hr:=rR.1 hu;have e6:JA g.s=true:=rR.2 (by rw[e1];show 1<=Pi.gE l+1+(k:Int)/\Pi.gE l+1+(k:Int)<=1099511627776/\(1:Int)<=5/\(5:Int)<=16;omega);have e7:kA g.dZ g.s=true:=rS.2 (.inl (by rw[e1];show g.dZ.1<Pi.gE l+1+(k:Int);omega));have e8:g.dZ≠(0,0):=λe=>by rw[e] at hr;exact absurd hr.1 (by decide)
 unfold cA hdG;rw[zap e8,e6,e3,hu,e7,e5,e1,e2,e4];simp;omega
theorem bG.qdw: ∀g∈l++yz (Pi.gE l) (c8 l) (c8 l).length,cA g=true:=by
 intro g hg;rcases zaz.1 hg with hg |hg
 ·exact h.GO g hg
 obtain⟨k,hk,rfl⟩:=vI.1 hg;exact h.qoJ hk
theorem bG.uNd:((l++yz (Pi.gE l) (c8 l) (c8 l).length).map (·.s)).Nodup:=by
 rw[zaC,zaR];refine⟨h.nd,?_,λa ha b hb e=> ?_⟩
 ·unfold yz;rw[zb3];refine List.Pairwise.map _ ?_ List.nodup_range;intro a b QX e;have:Pi.gE l+1+(a:Int)=Pi.gE l+1+(b:Int):=congrArg Prod.fst e;omega
 obtain⟨x,hx,rfl⟩:=zaq.1 ha;obtain⟨y,hy,rfl⟩:=zaq.1 hb;obtain⟨k,hk,rfl⟩:=vI.1 hy;have h1:=(pH l).2 x hx;rw[e] at h1;have:Pi.gE l+1+(k:Int)<=Pi.gE l:=h1;omega
theorem bG.qmz{s}(hs:s∈c8 (l++yz (Pi.gE l) (c8 l) (c8 l).length)):s∉c8 l:=by
 intro hm;have hr:=pG h.qdw h.uNd;have oO:(((l++yz (Pi.gE l) (c8 l) (c8 l).length).map j9).map (·.1)).Nodup:=by rw[EO];exact h.uNd
 have lS:=λs=>YT oO (PZ h.qdw) (s:=s)
 replace hs:s∈Ei ((aJ (l++yz (Pi.gE l) (c8 l) (c8 l).length)).map j9):=hs
 rw[hr] at hs;obtain⟨j,hj,rfl⟩:=zc3.1 hm;have hk:(c8 l).length-1-j<(c8 l).length:=by omega
 have dB:uG (Pi.gE l) (c8 l) ((c8 l).length-1-j)∈l++yz (Pi.gE l) (c8 l) (c8 l).length:=zba _ (vI.2 ⟨_,hk,rfl⟩);have nC:(uG (Pi.gE l) (c8 l) ((c8 l).length-1-j)).dZ=(c8 l)[j]:=by show(c8 l).getD ((c8 l).length-1-((c8 l).length-1-j)) (0,0)=_;rw[zab,show(c8 l).length-1-((c8 l).length-1-j)=j by omega,zad hj];rfl
 refine((lS _).1 hs).2 (j9 _) (zaq.2 ⟨_,dB,rfl⟩) nC ((lS _).2 ⟨⟨_,zaq.2 ⟨_,dB,rfl⟩,rfl⟩,λx hx e=> ?_⟩);obtain⟨y,hy,rfl⟩:=zaq.1 hx;exfalso;have hb:y.dZ.1<=Pi.gE l:=by
  rcases zaz.1 hy with hy |hy
  ·have h1:=rS.1 (KK (h.GO y hy));have h2:=(pH l).2 y hy;omega
  obtain⟨k,qj,rfl⟩:=vI.1 hy;exact(h.YW (qmy qj)).2
 have e2:y.dZ=(Pi.gE l+1+(((c8 l).length-1-j:Nat):Int),5):=e;rw[e2] at hb;have hb:Pi.gE l+1+(((c8 l).length-1-j:Nat):Int)<=Pi.gE l:=hb;omega
end
def qfl:a8:=λps R ae=> ∃m s,ps=[.sl 0 0 m.length,.d (bC s)]/\R=[(0,⟨0,some 0,pW true m⟩)]/\m.length<=1000000/\ ∀i,i=iQ m s->ae (iD i,[(0,⟨0,some 0,pW true m⟩)])
abbrev ftH(m:List ar)(s:aF)(i:Int):S:=⟨20,[(0,.sl 0 0 m.length),(3,.ref 1 0 0),(5,iD i)],[(0,⟨0,some 0,pW true m⟩),(1,⟨0,none,.box 27 [iD s.1,iD s.2]⟩)]⟩
def ZfA m:=(0,En.mk 0 (some 0) (Obj.arr (31:TypeId) true (List.map bZ m)))
def YX m:=[ZfA m]
theorem qfm m s i ae:(bif SM i m then ob (B7 i m) (ob (B6 i m) (ob (iY m i) (bif Z5A m i s then ae (PX.ret,S.mk 20 (qm m::CX i) (YX m)) else ob (Zh i) (ae (PX.normal,S.mk 20 (qm m::rJ::Zn i) (ZfA m::K1 s)))))) else ae (PX.exit 0,S.mk 20 [qm m] (YX m)))=(aD [] [] 16 2 (ftH m s i)) ae:=by kernel_rfl
def gFt:S->K (PX×S):=λst ae=> ∃m s,st=ftH m s 0/\m.length<=1000000/\(∀i,i=iQ m s->0<=i->ae (.ret,⟨20,[(0,.sl 0 0 m.length),(4,iD i)],[(0,⟨0,some 0,pW true m⟩)]⟩))/\(iQ m s= -1->ae (.exit 0,⟨20,[(0,.sl 0 0 m.length)],[(0,⟨0,some 0,pW true m⟩)]⟩))
theorem qoK m s ae:(∃cg iW,S.mk 20 (qm m::rJ::ZK) (ZfA m::K1 s)=S.mk 20 (qm cg::rJ::ZK) (ZfA cg::K1 iW)/\mM cg/\(∀i,i=iQ cg iW->(0:Int)<=i->ae (P.d (Zt i),YX cg))/\(iQ cg iW=(-1:Int)->ae (My,YX cg)))=(aI [] [(2,ah (aR 16 2) gFt)] 16 [.sl 0 0 m.length,.d (bC s)] [(0,⟨0,some 0,pW true m⟩)]) ae:=by kernel_rfl
abbrev qh7(a:List aF)(i:Int):S:=⟨26,[(0,kB a),(1,kB a),(5,iD i)],[]⟩
theorem YY a i ae:(bif Z4j i a then ob (SH i a) (ob (uf a i) (ob (SH i a) (ob (uf a i) (bif !(Gj a i==Gj a i&&(Hn a i==Hn a i&&true)) then ae (PX.ret,S.mk 26 Zg []) else ob (Zh i) (ae (PX.normal,S.mk 26 (Z9r a::B5 a::Zn i) [])))))) else Zo ae)=(aD [] [] 12 4 (qh7 a i)) ae:=by kernel_rfl
def qmA:S->K (PX×S):=λst ae=> ∃a,st=qh7 a 0/\a.length<=1000000/\ae (.exit 0,⟨26,[],[]⟩)
theorem qmB a ae:(bif (↑(qe a):Int) !=(↑(qe a):Int) then Z3 ae else∃mP,S.mk 26 (Z9r a::B5 a::ZK) []=S.mk 26 (Z9r mP::B5 mP::ZK) []/\B9 mP/\ZM ae)=(aI [] [(4,ah (aR 12 4) qmA)] 12 [kB a,kB a] []) ae:=by kernel_rfl
def qmC:a8:=λps R ae=> ∃a,ps=[kB a,kB a]/\R=[]/\a.length<=1000000/\ae (.d (.bool true),[])
abbrev Sp(on:List aF)(h:List ar)(t i:Int):S:=⟨96,[(3,.d (.bool true)),(5,.sl 0 0 on.length),(6,iD t),(7,.sl 1 0 h.length),(8,iD i)],[(0,⟨0,none,nj false on⟩),(1,⟨0,none,pW false h⟩)]⟩
def P0 on i:=(↑(eH on):Int)-(1:Int)-i
def ZfG on i:=D.int .i64 (D.aj (D.au (D.nth (gb on) (Int.toNat (P0 on i))) 0))::D.int .i64 (D.aj (D.au (D.nth (gb on) (Int.toNat (P0 on i))) 1))::ZdL
def ZfK t i on:=[D.agg (D.int .i64 (t+(1:Int)+i)::D.int .i64 (5:Int)::Zl i::Ow::ZfG on i)]
def P9 on:=(5,sS on)
def Nw:=(3,ZL)
def ZfH t i on:=[D.agg (D.int .i64 (t+(1:Int)+i)::D.int .i64 (5:Int)::Zl i::D.sl 1 (Z5::Z5::Z5::Z5::ZE i)::ZfG on i)]
def ZfF on i:=decide ((0:Int)<=P0 on i/\P0 on i<(↑(eH on):Int))
def ZfD on:=decide (Z7<=(↑(eH on):Int)-(1:Int)/\(↑(eH on):Int)-(1:Int)<=Z8)
def ZfC t i:=decide (Z7<=t+(1:Int)+i/\t+(1:Int)+i<=Z8)
theorem YZ on h t i ae:(bif S0 i on then bif Zr i then ob (Zh t) (ob (ZfC t i) (ob (Zh i) (ob (ZfD on) (ob (decide (Z7<=P0 on i/\P0 on i<=Z8)) (ob (ZfF on i) (ob (decide (Int.toNat (P0 on i)<qe on)) (ob (bO PR (27:TypeId) (D.nth (gb on) (Int.toNat (P0 on i)))) (ob (Nat.ble (fS h) (iu h)&&aG (fS h+List.length (ZfH t i on)) 88) (ob (Zh i) (ae (PX.normal,S.mk 96 (Nw::P9 on::ZI t::(7,P.sl 1 0 (fS h+List.length (ZfH t i on)))::rN i) [Bo on,(1,En.mk 0 none (Obj.arr (31:TypeId) false (Ld h++ZfH t i on)))]))))))))))) else ob (Zh t) (ob (ZfC t i) (ob (Zh i) (ob (ZfD on) (ob (decide (Z7<=P0 on i/\P0 on i<=Z8)) (ob (ZfF on i) (ob (decide (Int.toNat (P0 on i)<qe on)) (ob (bO PR (27:TypeId) (D.nth (gb on) (Int.toNat (P0 on i)))) (ob (Nat.ble (fS h) (iu h)&&aG (fS h+List.length (ZfK t i on)) 88) (ob (Zh i) (ae (PX.normal,S.mk 96 (Nw::P9 on::ZI t::(7,P.sl 1 0 (fS h+List.length (ZfK t i on)))::rN i) [Bo on,(1,En.mk 0 none (Obj.arr (31:TypeId) false (Ld h++ZfK t i on)))]))))))))))) else ae (PX.exit 0,S.mk 96 [Nw,P9 on,(7,rP h)] [Bo on,GM h]))=(aD [] [] 5 10 (Sp on h t i)) ae:=by kernel_rfl
abbrev qmD(on:List aF)(h:List ar):S:=⟨96,[(3,.d (.bool true)),(5,.sl 0 0 on.length),(7,.sl 1 0 h.length)],[(0,⟨0,none,nj false on⟩),(1,⟨0,none,pW false h⟩)]⟩
def qfn:S->K (PX×S):=λs ae=> ∃on h t,s=Sp on h t 0/\(on.length<=1000/\h.length<=1000/\0<=t/\t<=1000)/\ ∀m,m=h++yz t on on.length->ae (.exit 0,qmD on m)
abbrev qh8(on x:List aF)(h:List ar)(i:Int):S:=⟨96,[(3,.d (.bool true)),(5,.sl 0 0 on.length),(7,.sl 1 0 h.length),(10,.sl 2 0 x.length),(11,iD i)],[(0,⟨0,none,nj false on⟩),(1,⟨0,none,pW true h⟩),(2,⟨0,none,nj false x⟩)]⟩
abbrev qmE(x:List aF)(h:List ar):S:=⟨96,[(3,.d (.bool true)),(7,.sl 0 0 h.length),(10,.sl 1 0 x.length)],[(0,⟨0,none,pW true h⟩),(1,⟨0,none,nj false x⟩)]⟩
def ZfL h x:=[Nw,(7,rK h),(10,P.sl 1 0 (eH x))]
def ZfN l m x:=[Bo l,(1,S9 m),(2,re x)]
def ZfM(ae:PX×S->Prop) h x m:=ae (PX.ret,S.mk 96 ((2,P.d Z2)::ZfL h x) [Cg m,(1,re x)])
theorem Y0 on x h i ae:(bif S0 i x then ob (Z9t i x) (ob (Hq i x) (ob (uf x i) (∃m s,rK h::Ru x i=rK m::oQ s/\YX h=YX m/\mM m/\ ∀bg,bg=iQ m s->bif Rb bg then ZfM ae h x m else ob (B7 bg h) (ob (B6 bg m) (ob (iY m bg) (bif D.aj (D.au (ln m bg) 4)==(0:Int)&&(D.aj (D.au (ln m bg) 5)==(0:Int)&&true) then ob (Z9t i x) (ob (Hq i x) (ob (uf x i) (∃l bm,sS on::Ru x i=sS l::oQ bm/\xN on=xN l/\B9 l/\ ∀b,b=decide (bm∈l)->bif b then ZfM ae h x m else ob (Zh i) (ae (PX.normal,S.mk 96 (Nw::P9 on::(7,rP h)::(10,wR x)::Z7z i) (ZfN l m x)))))) else ob (Zh i) (ae (PX.normal,S.mk 96 (Nw::P9 on::(7,rP h)::(10,wR x)::Z7z i) (ZfN on m x))))))))) else ae (PX.exit 2,S.mk 96 (ZfL h x) [Cg h,(1,re x)]))=(aD [(16,qfl),(14,Px)] [] 5 18 (qh8 on x h i)) ae:=by kernel_rfl
def qfo:S->K (PX×S):=λs ae=> ∃on x h,s=qh8 on x h 0/\(on.length<=1000/\x.length<=1000/\h.length<=1000)/\((∀s∈x,∃g∈h,g.s=s)/\ ∀s∈x,s∉on)/\ae (.exit 2,qmE x h)
def ZfO eW h x:=S.mk 96 (Nw::P9 eW::(7,rP h)::(10,wR x)::Z7F) (ZfN eW h x)
def ZfP ae:=λs0=> ∃on h js,s0=S.mk 96 (Nw::P9 on::ZI js::(7,rP h)::wQ) [Bo on,GM h]/\(eH on<=1000/\fS h<=1000/\(0:Int)<=js/\js<=(1000:Int))/\ ∀m,m=h++yz js on (eH on)-> ∃l,Zc6 m=yw l/\Zx/\CW l/\ ∀o,o=c8 l-> ∃eW x h,ZfO on m o=ZfO eW h x/\(eH eW<=1000/\eH x<=1000/\fS h<=1000)/\((∀s,s∈x-> ∃g,g∈h/\ar.s g=s)/\ ∀s,s∈x-> ¬s∈eW)/\ ∃l,Zc6 h=yw l/\Zx/\mM l/\ ∀o,o=List.map j9 l-> ∃l,Z6O o=[P.d (D.sl 4 (List.map cr l))]/\Zx/\wK l/\ ∀o,o=Ei l-> ∃a,[P.d (Zc3 x),P.d (Zc3 o)]=[Ed a,Ed a]/\Zx/\B9 a/\ZM ae
def ZfQ:=[P.d (D.sl 7 [])]
theorem qmF M ae:(EqP [] []/\Zx/\ ∃m,[P.d (D.sl 6 (List.map yy M))]=[P.d (D.sl 6 (List.map yy m))]/\Zx/\BM m/\(∃l,ZfQ=yw l/\Zx/\CW l/\ ∀o,o=c8 l-> ∃l,ZfQ=yw l/\Zx/\mM l/\ ∀t,t=gE l->ZfP ae (S.mk 96 (Nw::P9 o::ZI t::(7,Bu)::wQ) [Bo o,(1,SO)]))/\ ∀g,EN m g-> ∃l,yw g=yw l/\Zx/\CW l/\ ∀o,o=c8 l-> ∃l,yw g=yw l/\Zx/\mM l/\ ∀t,t=gE l->ob (ZdH g) (ZfP ae (S.mk 96 (Nw::P9 o::ZI t::(7,P.sl 1 0 (0+iu g))::wQ) [Bo o,(1,En.mk 0 none (Obj.arr (31:TypeId) false (ZdI g)))])))=(aI [(8,mz),(9,qlK),(13,GL),(15,Yf),(18,qhk),(17,qhn),(12,qmC)] [(10,ah (aR 5 10) qfn),(18,ah (aR 5 18) qfo)] 5 [.d (.sl 6 (M.map yy))] []) ae:=by kernel_rfl
section
variable{X:XF}{w0:World}(hX:cz PR w0 X.cf)
include hX
theorem qmG(h1:FD X 11 xX)(h2:FD X 13 qh6):ND w0 8 mz:=ND.mk hX mN (by kernel_rfl) (by kernel_rfl) (.cons h1 (.cons h2 .nil)) .nil .nil (by
 intro ps R ae hh;obtain⟨rfl,rfl,hp⟩:=hh
 (rw[<-qmx];delta ZL ZM Z2 Z3 ZdL ZO Z1I Z40 oP Z5 VJ Rs Ow Zfx Zfz Zx Zfy)
 exact .inl ⟨rfl,rfl,.inr ⟨rfl,rfl,rfl,rfl,hp⟩⟩)
end
def Tp:Pl:=((1,1,0),(0,0,0),[97],true)
theorem qmH:ml (c8 [KJ]) (aJ [KJ])=⟨[(1,1,0)],[Tp],[((1,1,0),(1,1))],[]⟩:=by kernel_rfl
theorem qmI:ml (c8 [KJ,u1A]) (aJ [KJ,u1A])=⟨[(1,1,0)],[Tp],[],[]⟩:=by kernel_rfl
theorem qmJ:r8 (([(1,1,0)].zip [Tp]).foldl yu [])=[Tp]:=by kernel_rfl
theorem qmK:ri (aJ [KJ]) (1,1,0)=some true:=by kernel_rfl
theorem qmL:ri (aJ [KJ,u1A]) (1,1,0)=some true:=by kernel_rfl
theorem qoL:dy (fP [Tp]) (sK (C3 [((1,1,0),(1,1))] []))=[((1,1,0),[47,97],true,false)]:=by kernel_rfl
theorem qoM:dy (fP [Tp]) (sK (C3 [] []))=[]:=by kernel_rfl
theorem qoN:c8 [KJ,u1A]=[(2,1)]:=by kernel_rfl
theorem Y1{V l}(hd:kD V.d (ri (aJ l)))(e:ri (aJ l) (1,1,0)=some true):([Tp].filter (jW V)).map (oM V)=[Tp]:=by
 have h:V.d (aL Tp.1)=some (.bool true):=by rw[hd];show(ri (aJ l) (1,1,0)).map D.bool=_;rw[e];rfl
 have h1:jW V Tp=true:=by unfold jW;rw[h];rfl
 have h2:oM V Tp=Tp:=by unfold oM qfb;rw[h];rfl
 simp[h1,h2]
theorem qmM:CW [KJ]:=⟨by decide,λg hg=>by rw[zaJ.1 hg];exact⟨λo ho=>by rw[show o=(⟨0,(1,1,0),(0,0,0),[97],true,[],(0,0,0),(0,0,0),[],[]⟩:bj) from zaJ.1 ho];exact⟨by decide,by decide,by decide⟩,by decide,by decide⟩⟩
theorem qmN:CW [KJ,u1A]:=⟨by decide,λg hg=>by
 rcases zat.1 hg with h |h
 ·rw[h];exact qmM.2 _ (zaJ.2 rfl)
 rw[zaJ.1 h];exact⟨λo ho=>(by cases ho),by decide,by decide⟩⟩
theorem Y2{ps R ae}(h:xX ps R ae):qmv ps R ae:=by
 rcases h with⟨rfl,rfl,hp⟩| ⟨rfl,rfl,hp⟩
 ·refine⟨[KJ],[((1,1,0),[47,97],true,false)],rfl,rfl,qmM,λV hd=> ?_,?_,⟨by decide,by simp⟩,λe he=> ?_⟩
  ·rw[qmH];unfold Sl;rw[qmJ,Y1 hd qmK];exact qoL
  ·rw[qmH]
   decide
  rw[he];exact hp
 refine⟨[KJ,u1A],[],rfl,rfl,qmN,λV hd=> ?_,?_,⟨by decide,by simp⟩,λe he=> ?_⟩
 ·rw[qmI];unfold Sl;rw[qmJ,Y1 hd qmL];exact qoM
 ·rw[qmI]
  decide
 rw[he];exact hp
theorem qdx{ps R ae}(h:qh6 ps R ae):GL ps R ae:=by obtain⟨rfl,rfl,hp⟩:=h;refine⟨[KJ,u1A],rfl,rfl,qmN,λo ho=> ?_⟩;rw[ho,qoN];exact hp
theorem ND.weaken{w0 f h1 h2}(h:ND w0 f h1)(hw: ∀ps R ae,h2 ps R ae->h1 ps R ae):ND w0 f h2:=λps R ae hp=>h ps R ae (hw ps R ae hp)
end Pi
namespace Pi
open Go Go.Proofs Go.RowKit Go.Proofs.YtdgkdigdflkjhaaGreatDoor
set_option maxRecDepth 100000
abbrev sV:=[("math/bits.deBruijn32tab",Rows.laid_math_bits_deBruijn32tab),("math/bits.deBruijn64tab",Rows.laid_math_bits_deBruijn64tab),("internal/strconv.uint64pow10",Rows.laid_internal_strconv_uint64pow10),("unicode/utf8.acceptRanges",Rows.laid_unicode_utf8_acceptRanges),("unicode/utf8.first",Rows.laid_unicode_utf8_first)]
theorem gP:Tryz.prog.globalNamed "internal/strconv.uint64pow10" =some 3:=by kernel_rfl
theorem tP:(Tryz.prog.globals[3]?).map (·.type)=some 367:=by kernel_rfl
theorem KL w (h:laidMetH Tryz.prog sV w):laidMet Tryz.prog sV w:=by
 unfold laidMetH at h;have e:(sV.filter λx=>x.2.handleName?.isSome)=[]:=by kernel_rfl
 rw[e] at h;exact h
theorem qdy w (h:laidMet Tryz.prog sV w):laidMetH Tryz.prog sV w:=by
 unfold laidMetH;have e:(sV.filter λx=>x.2.handleName?.isSome)=[]:=by kernel_rfl
 rw[e];exact h
theorem qmO:(Rows.laid_internal_strconv_uint64pow10:DataW Unit)=Lib.tabData .u64 Lib.pow10Tab:=by kernel_rfl
theorem qmP:(Rows.laid_unicode_utf8_first:DataW Unit)=Lib.firstData:=by kernel_rfl
theorem qmQ:(Rows.laid_unicode_utf8_acceptRanges:DataW Unit)=Lib.acceptData:=by kernel_rfl
def qoO:Go.Shelf.Ren:=⟨λn=>n,λ|5=>5 |119=>297 |138=>299 |139=>300 |n=>n,λ|3=>0 |4=>1 |n=>n⟩
theorem qmR{W}(h:laidMet Tryz.prog sV W):Lib.Utf8Tabs 0 1 W:=
 utf8Tabs_of_readsT (ρ:=qoO) ⟨by kernel_rfl,by kernel_rfl,by kernel_rfl,by kernel_rfl⟩ ⟨by kernel_rfl,by kernel_rfl,by kernel_rfl,by kernel_rfl,by kernel_rfl,by kernel_rfl,by kernel_rfl⟩
  (by rw[<-qmP];exact Lib.laidMet.reads h (.tail _ (.tail _ (.tail _ (.tail _ (.head _))))))
  (by rw[<-qmQ];exact Lib.laidMet.reads h (.tail _ (.tail _ (.tail _ (.head _)))))
theorem qh9{W}(h0:laidMetH Tryz.prog sV W)(hs:W.ShapedOpen Tryz.prog):StW W:=by
 have h:=KL W h0;have h3:=h.tail.tail;have I6:Lib.TabIs Tryz.prog W "internal/strconv.uint64pow10" .u64 Lib.pow10Tab:=
  Lib.tabIs_of_head (k:= .u64) (zs:=Lib.pow10Tab) gP tP Tryz.underlying367 Tryz.underlying264 (by kernel_rfl) (by kernel_rfl) (by rw[<-qmO];exact h3)
 refine⟨?_,λw hw=> ?_,qmR h⟩
 ·exact cell_of_shapedOpen_int (zero:= #[.int .i64 0]) (t:=3) hs (zbL (by kernel_rfl)) (by kernel_rfl) rfl (by kernel_rfl) (by kernel_rfl) Tryz.underlying3
 unfold Lib.TabIs World.var? at I6⊢;rw[gP] at I6⊢;simp only[zaw] at I6⊢;by_cases hb:3<W.heap.size
 ·rw[hw 3 hb];exact I6
 rw[zcU (by omega)] at I6;cases I6
noncomputable def wL os:=World.laidAll Tryz.prog os sV
theorem qia os args:laidMet Tryz.prog sV ((wL os).forCall (λ_ _=>0) ⟨#[],args,[]⟩).memory:=
 laidMet_laidAll _ (by kernel_rfl) (by kernel_rfl)
theorem Y3: ∀{l m:List Td},l.map (·.1)=m.map (·.1)->l.map (·.2)=m.map (·.2)->l=m
 | [],[],_,_=>rfl
 | [],_::_,h,_=>by cases h
 |_::_,[],h,_=>by cases h
 | (a,b)::l,(c,d)::m,h1,h2=>by simp only[za4,zbr] at h1 h2;obtain⟨rfl,h1⟩:=h1;obtain⟨rfl,h2⟩:=h2;rw[Y3 h1 h2]
def qmS:D->aM
 | .agg [.int .i64 a,.int .i64 b,.int .i64 c,.int .i64 d,.int .i64 e]=>((a,b,c),(d,e))
 |_=>((0,0,0),(0,0))
theorem lx{α β:Type} f (g:β->α)(hg: ∀x,g (f x)=x){a b:List α}(h:a.map f=b.map f):a=b:=by have:=congrArg (List.map g) h;rw[zb3,zb3] at this;rwa [show(g∘f)=id from funext hg,zcM,zcM] at this
theorem qdz:Det G8:=by intro ps R y ae h h';obtain⟨l,rfl,rfl,hl,hp⟩:=h;obtain⟨m,e,_,hm,hq⟩:=h';simp only[zbr,P.d.injEq,D.sl.injEq,zcL,zcA] at e;have:l=m:=Y3 (lx aL qb8 (λ_=>rfl) e.1) (lx bn qh2 (λ_=>rfl) e.2);subst this;rw[<-hp _ rfl];exact hq _ rfl
theorem qdA:Det G9:=by intro ps R y ae h h';obtain⟨l,g,rfl,rfl,hl,hp⟩:=h;obtain⟨m,k,e,_,hm,hq⟩:=h';simp only[zbr,P.d.injEq,D.sl.injEq,zcL,zcA] at e;have e1:l=m:=lx cV qmS (λ_=>rfl) e.1;have e2:g=k:=lx cV qmS (λ_=>rfl) e.2;subst e1 e2;rw[<-hp _ rfl];exact hq _ rfl
theorem Sq:Det pL:=by intro ps R y ae h h';obtain⟨l,v,rfl,rfl,hl,hp⟩:=h;obtain⟨m,k,e,_,hm,hq⟩:=h';simp only[zbr,P.d.injEq,D.sl.injEq,zcL,zcA] at e;have e1:l=m:=lx bn qh2 (λ_=>rfl) e.1;have e2:v=k:=lx aL qb8 (λ_=>rfl) e.2;subst e1 e2;rw[<-hp];exact hq
theorem KM{l m}(h:[dw l]=[dw m]):l=m:=by
 have c:l.map bZ=m.map bZ:=by simpa using h
 exact BA qkM c
theorem Qa:Det GL:=by intro ps R y ae h h';obtain⟨l,rfl,rfl,hl,hp⟩:=h;obtain⟨m,e,_,hm,hq⟩:=h';have:=KM e;subst this;rw[<-hp _ rfl];exact hq _ rfl
theorem Y4:Det xX:=by
 intro ps R y ae h h';have cO:[dw [KJ]]≠[dw [KJ,u1A]]:=λe=>by have:=congrArg List.length (KM e);simp at this
 rcases h with⟨rfl,rfl,hp⟩| ⟨rfl,rfl,hp⟩
 ·rcases h' with⟨_,_,hq⟩| ⟨e,_,hq⟩
  ·rw[<-hp];exact hq
  exact absurd e cO
 rcases h' with⟨e,_,hq⟩| ⟨_,_,hq⟩
 ·exact absurd e.symm cO
 rw[<-hp];exact hq
theorem qdB:Det mz:=by intro ps R y ae h h';rw[<-h.2.2];exact h'.2.2
theorem qib ps R ae (h:G8 ps R ae): ∃y,G8 ps R (λz=>z=y):=by obtain⟨l,h1,h2,h3,_⟩:=h;exact⟨_,l,h1,h2,h3,λo ho=>by rw[ho]⟩
theorem qic ps R ae (h:G9 ps R ae): ∃y,G9 ps R (λz=>z=y):=by obtain⟨l,g,h1,h2,h3,_⟩:=h;exact⟨_,l,g,h1,h2,h3,λo ho=>by rw[ho]⟩
theorem Y5 ps R ae (h:pL ps R ae): ∃y,pL ps R (λz=>z=y):=by obtain⟨l,v,h1,h2,h3,_⟩:=h;exact⟨_,l,v,h1,h2,h3,rfl⟩
theorem Y6 ps R ae (h:GL ps R ae): ∃y,GL ps R (λz=>z=y):=by obtain⟨l,h1,h2,h3,_⟩:=h;exact⟨_,l,h1,h2,h3,λo ho=>by rw[ho]⟩
theorem qdC ps R ae (h:xX ps R ae): ∃y,xX ps R (λz=>z=y):=by
 rcases h with⟨h1,h2,_⟩| ⟨h1,h2,_⟩
 ·exact⟨_,.inl ⟨h1,h2,rfl⟩⟩
 exact⟨_,.inr ⟨h1,h2,rfl⟩⟩
theorem qid ps R ae (h:mz ps R ae): ∃y,mz ps R (λz=>z=y):=⟨_,h.1,h.2.1,rfl⟩
noncomputable def xV1:=Ja.tell 46 (sU G8) (by kernel_rfl)
noncomputable def xV2:=xV1.tell 50 (sU G9) (by kernel_rfl)
noncomputable def xV3:=xV2.tell 49 (sU pL) (by kernel_rfl)
noncomputable def xV4:=xV3.tell 11 (sU xX) (by kernel_rfl)
noncomputable def xV5:=xV4.tell 13 (sU GL) (by kernel_rfl)
noncomputable def xV6:=xV5.tell 8 (sU mz) (by kernel_rfl)
theorem qie:FD xV3 46 G8:=FD.told Tryz.func46 (by kernel_rfl) qdz qib λ_ _=>rfl
theorem qif:FD xV3 50 G9:=FD.told Tryz.func50 (by kernel_rfl) qdA qic λ_ _=>rfl
theorem Y7:FD xV3 49 pL:=FD.told Tryz.func49 (by kernel_rfl) Sq Y5 λ_ _=>rfl
theorem qig:FD xV5 11 xX:=FD.told Tryz.func11 (by kernel_rfl) Y4 qdC λ_ _=>rfl
theorem qmT:FD xV5 13 GL:=FD.told Tryz.func13 (by kernel_rfl) Qa Y6 λ_ _=>rfl
theorem qmU:FD xV6 13 GL:=FD.told Tryz.func13 (by kernel_rfl) Qa Y6 λ_ _=>rfl
theorem qih:FD xV6 8 mz:=FD.told Tryz.func8 (by kernel_rfl) qdB qid λ_ _=>rfl
section
variable{w1:World}(hw:StW w1)
include hw
theorem Y8:cz Tryz.prog {w1 with drawn:=0} xV3.cf:=XF.rT rfl (XF.rT rfl (XF.rT rfl (I9 hw) (CG.ofN (ql7 (X:=Ja) (I9 hw)) λ_ _ _ h=>jx h)) (CG.ofN (qmm (X:=Ja) (I9 hw)) λ_ _ _ h=>jx h)) (CG.ofN (qci (X:=Ja) (I9 hw)) λ_ _ _ h=>jx h)
theorem Y9:cz Tryz.prog {w1 with drawn:=0} xV5.cf:=XF.rT rfl (XF.rT rfl (Y8 hw) (CG.ofN (ND.weaken (qmw (X:=xV3) (Y8 hw) qie qif Y7) λ_ _ _ h=>Y2 h) λ_ _ _ h=>jx h)) (CG.ofN (qlk (X:=Ja) (I9 hw)) λ_ _ _ h=>jx h)
theorem qii:cz Tryz.prog {w1 with drawn:=0} xV6.cf:=XF.rT rfl (Y9 hw) (CG.ofN (qmG (X:=xV5) (Y9 hw) qig λps R ae h=>qmT ps R ae (qdx h)) λ_ _ _ h=>jx h)
end
end Pi
namespace Pi
open Go Go.Proofs
set_option maxRecDepth 100000
set_option maxHeartbeats 0
theorem xY{a b:Int}(h:0<=a)(hb:0<b):0<=a.tmod b/\a.tmod b<b:=⟨Int.tmod_nonneg b h,Int.tmod_lt_of_pos a hb⟩
theorem bG.smS{i l}(h:bG i l)(hi:i<=1000):SmS l:=by
 have h1:=h.len;have h2:=h.dx;refine⟨⟨by omega,λg hg=>⟨λo ho=> ?_,?_,?_⟩⟩,?_⟩
 ·have h3:=(h.sm g hg).2.2.2 o ho;have h4:=vd (h.GO g hg) o ho;exact⟨by omega,by omega,by omega⟩
 ·have h3:=(h.sm g hg).2.2.1;omega
 ·have:=pO (wS (h.GO g hg)).2.2.1;omega
 show Pi.dx l<=1000;omega
theorem qmV{q}(h:q=0\/q=1\/q=2):((0<=IntKind.wrap IntKind.u8 (q+1)/\IntKind.wrap IntKind.u8 (q+1)<=((3:Nat):Int))/\(0<=q/\q<=((IntKind.wrap IntKind.u8 (q+1)).toNat:Int)))/\bX (List.drop q.toNat (List.take (IntKind.wrap IntKind.u8 (q+1)).toNat [97,98,99]))=true:=by rcases h with rfl |rfl |rfl<;>exact⟨by decide,by kernel_rfl⟩
theorem qmW{k d:Int}(hk:0<=k/\k<5)(hd:0<=d/\d<2):oD (List.drop k.toNat (List.take (k+1+d).toNat [117,118,119,120,121,122]))=true/\(List.drop k.toNat (List.take (k+1+d).toNat ([117,118,119,120,121,122]:List UInt8))).length<=2:=by
 obtain hk:k=0\/k=1\/k=2\/k=3\/k=4:=by omega
 obtain hd:d=0\/d=1:=by omega
 rcases hk with rfl |rfl |rfl |rfl |rfl<;>rcases hd with rfl |rfl<;>exact⟨by kernel_rfl,by decide⟩
theorem qdD{i l}(h:bG i l)(hi:i<=1000) x:nN (fN l x):=by
 have h1:=h.len;have h2:=h.dx;have h3:=wT x l;have hr: ∀r∈fN l x,r.2.2.length<=2/\r.2.1.2.2=0:=λr hr=>by obtain⟨g,hg,o,ho,hk,rfl⟩:=Ko hr;obtain⟨m,hm⟩:=op1 h hg ho;have:=PG hm hk;exact⟨((h.sm g hg).2.2.2 o ho).1,by rw[this]⟩
 have key: ∀L:List cb,(∀r∈L,r.2.2.length<=2)->Le L<=2*L.length:=λL=>by
  induction L with
  |nil=>intro _;simp[Le]
  |cons r L ih=>
   intro hL;have h4:=ih λr hr=>hL r (.tail _ hr);have h5:=hL r (.head _);have h6:=BL r.2.2;have h7:Le (r::L)=(rj r.2.2).length+Le L:=by simp[Le]
   rw[h7,zao];omega
 refine⟨by omega,?_,λr h=> ?_⟩
 ·have:=key _ λr h=>(hr r h).1;omega
 have:=hr r h;rw[this.2];exact⟨by omega,by omega,by omega⟩
theorem kF{α:Type}(f:α->D)(o:List α):List.take o.length (o.map f)=o.map f:=zak (by simp)
theorem qij{l}{e:List ao}(he: ∀y∈e,iU l y)(hs:e.Pairwise λa b=>fc a b=true){q d}(hq:0<=q/\q<(e.length:Int))(hd:0<=d/\d<3):
  (∀y∈(e.drop q.toNat).take ((min (e.length:Int) (q+1+d)).toNat-q.toNat),iU l y)/\((e.drop q.toNat).take ((min (e.length:Int) (q+1+d)).toNat-q.toNat)).Pairwise (λa b=>fc a b=true)/\
   1<=((e.drop q.toNat).take ((min (e.length:Int) (q+1+d)).toNat-q.toNat)).length/\((e.drop q.toNat).take ((min (e.length:Int) (q+1+d)).toNat-q.toNat)).length<=3:=by
 refine⟨λy hy=>he y (zb8 (zbm hy)),hs.sublist ((List.take_sublist _ _).trans (List.drop_sublist _ _)),?_,?_⟩
 ·rw[zau,zbk];omega
 rw[zau];omega
section
variable{X:XF}
theorem qik:FD X 65 qe5:=FD.mk (by kernel_rfl) .nil .nil (by
 intro ps R ae hh;obtain⟨l,n,rfl,rfl,⟨hl,hn⟩,hp⟩:=hh
 (rw[<-qhH];delta dW Zdp Z5 Z8 Z7 Zh kU uU)
 refine ak (by omega) λc hc=> ?_;have hm:(l.map aL).length=l.length:=zaa ..;rw[hm] at hc⊢;have hq:=xY hn.1 (show 0<c+1 by omega);refine ak (by omega) (aq (by rw[zaS (by omega)];rfl) (JP (λ_=>hp aA (.inl rfl)) λh=>ak (by omega) ?_));generalize n.tmod (c+1)=q at*
 have bK:q.toNat<l.length:=by omega
 rw[az _ _ _ bK];exact aq (ga _) (hp _ (.inr (zas bK))))
theorem qmX:FD X 41 qlG:=FD.mk (by kernel_rfl)
  (.cons qlA (.cons qik (.cons qom (.cons qhB (.cons qlD (.cons qlF .nil)))))) .nil (by
 intro ps R ae hh;obtain⟨i,l,v,r,x,rfl,rfl,⟨hl,hi,hx⟩,hp⟩:=hh
 (rw[<-qoo];delta ZL Ot dW Rs Z2 oP Z5 gj gk gy fQ fR dH ky Zdn Z8 Z7 Zdi Rh Z40 VJ Z4c Zdm Z3M fS mM Zx gS gA gF Zdo Zdh nf ni Zdj Zdk Zdc j8 Zdb gR SF R7 Zdl gb eH Zc3 Z1I tX oT yw ZO Zd9 Zde Zdg Yo Zdf ZcE fk)
 have hL:=hl.known v;have hlen:=hL.len;have C8:=hL.dx;have hq:=xY hx.b.1 (show(0:Int)<3 by decide);have yM:=qmV (q:=x.b.tmod 3) (by omega);have hk:=xY hx.c.1 (show(0:Int)<5 by decide);have hd:=xY hx.c.1 (show(0:Int)<2 by decide);have hd3:=xY hx.c.1 (show(0:Int)<3 by decide);have huv:=qmW hk hd;have hc:=hx.c;have hb:=hx.b;have h0:(aP l v).length<=1000000/\dx (aP l v)<=1000:=by omega
 refine⟨_,true,rfl,rfl,h0,λds hds=>⟨_,false,rfl,rfl,h0,λfs hfs=>ak yM.1.1 (ak yM.1.2 ?_)⟩⟩;have hrd: ∀y,(y=aA\/y∈ds)->(y=aA\/iU (aP l v) y):=λy h=>h.imp_right λh=>PJ hL (hds▸h);have hrf: ∀y,(y=aA\/y∈fs)->(y=aA\/iU (aP l v) y):=λy h=>h.imp_right λh=>PJ hL (hfs▸h);have hra: ∀y,(y=aA\/y∈fs++ds)->(y=aA\/iU (aP l v) y):=λy h=>h.elim .inl λh=>(zaz.1 h).elim (λh=>hrf y (.inr h)) λh=>hrd y (.inr h);have hdl:ds.length<=1000000:=by rw[hds];have:=oK true (aP l v);omega
 have xZ:fs.length<=1000000:=by rw[hfs];have:=oK false (aP l v);omega
 have N0:(fs++ds).length<=1000000:=by have:=oK true (aP l v);have:=oK false (aP l v);rw[zaj,hfs,hds];omega
 have hdp: ∀(Q:ao->Prop),(∀y,(y=aA\/iU (aP l v) y)->Q y)-> ∃(m:List ao) (n:Int),[P.d (D.sl 3 (List.take ds.length (ds.map aL))),P.d (D.int .u8 x.a)]=[P.d (D.sl 3 (m.map aL)),P.d (D.int .u8 n)]/\EqR [] []/\(m.length<=1000000/\0<=n/\n<=255)/\ ∀y,(y=aA\/y∈m)->Q y:=
  λQ h=>⟨ds,x.a,by rw[kF],rfl,⟨hdl,hx.a⟩,λy hy=>h y (hrd y hy)⟩
 have qdE: ∀y:ao,(y.1==(0:Int)&&(y.2.1==(0:Int)&&true)&&(y.2.2==(0:Int)&&true))=(y==aA):=λy=>vo y aA;have cO: ∀y:ao,(y=aA\/iU (aP l v) y)->(!(y==aA))=true->iU (aP l v) y:=λy h h1=>h.resolve_left λe=>by rw[e] at h1;simp at h1
 refine⟨fs,x.a,by rw[kF],rfl,⟨xZ,hx.a⟩,λf hf=> ?_⟩;have hf:=hrf f hf;refine JP (λ_=>hdp _ λy hy=>hp (Kk (fg l v r) y _ true) true λ_=>⟨⟨_,PH hl hy yM.2 true⟩,by simp[Kk],by simp[Kk]⟩) λ_=>
  JP (λ_=>hdp _ λy hy=>hp (Kk (fg l v r) y _ false) true λ_=>⟨⟨_,PH hl hy yM.2 false⟩,by simp[Kk],by simp[Kk]⟩) λ_=>
  JP (λ_=>⟨fs,ds,by rw[kF,kF],rfl,⟨xZ,hdl⟩,λa ha=>⟨a,x.c,by rw[kF],rfl,⟨by rw[ha];exact N0,hx.c⟩,λy hy=>hdp _ λz hz=> ?_⟩⟩) λ_=>
  JP (λ_=>⟨fs,ds,by rw[kF,kF],rfl,⟨xZ,hdl⟩,λa ha=>⟨a,x.c,by rw[kF],rfl,⟨by rw[ha];exact N0,hx.c⟩,λy hy=>⟨aP l v,rfl,rfl,hL.smS (by omega),λon t p it Hx ht _ _=>⟨t.h,t.g,y,rfl,rfl,?_,λd j9=> ?_⟩⟩⟩⟩) λ_=> ?_
 ·have hy:=hra y (by rw[<-ha];exact hy);rw[qdE];exact hp (X1 y z _) (!(y==aA)) λh=>⟨⟨_,qcW hl (cO y hy h) hz yM.2⟩,by simp[X1],by simp[X1]⟩
 ·have hR:=hL.right;have hB:=Eu (on:=on) (l:=aP l v) hL.GO _ (zal _);rw[zai] at hB;rw[ht,hR];have h1:=hB.2.2.1;have h2:=hB.2.2.2;exact⟨by omega,by omega⟩
 ·have hy:=hra y (by rw[<-ha];exact hy);have hd4:=qc3 hL (by omega) (on:=on) (g:=t.g) (x:=y);rw[qdE,kF];rw[hL.right] at ht;rw[<-ht,<-j9] at hd4;exact hp (X2 y d) (!(y==aA)) λh=>⟨⟨_,qcX hl (cO y hy h) hd4.1 hd4.2.1 hd4.2.2⟩,by simp[X2],by simp[X2]⟩
 have QV:(aP l v).length<=1000000/\dx (aP l v)<=1000/\nN (fN (aP l v) f):=⟨h0.1,h0.2,qdD hL (by omega) f⟩
 have Sw:(Nh (aP l v) f).length<=1000000:=by have:=zk (l:=fN (aP l v) f) _ (zal _);rw[zai] at this;have:=QV.2.2.2.1;unfold Nh;rw[oF,zaa];omega
 refine JP (λh4=>JP (λ_=> ?_) λh=>absurd h4 h) λ_=>JP (λ_=> ?_) λ_=> ?_
 rotate_left 2
 ·refine⟨_,f,rfl,rfl,QV,λe he=> ?_⟩;rw[qdE];have bI:ae (P.dz [P.d (eT ⟨0,aA,aA,[],false,[],aA,aA,[],[]⟩),P.d (D.bool false)],[]):=hp _ false λh=>by cases h
  refine ay (λ_=>bI) λhf2=>JP (λ_=>bI) λNQ=> ?_;have hfr:iU (aP l v) f:=cO f hf (by rw[hf2];rfl);have hq2:=xY hx.b.1 (show(0:Int)<(e.length:Int) by omega);have qo1:e.length<=1000000:=by rw[he];exact Sw
  have hct:=qij (e:=e) (λy hy=>Kp hL (he▸hy)) (by rw[he];exact R9 _ _) hq2 hd3;generalize x.b.tmod (e.length:Int)=q at*
  generalize x.c.tmod 3=d at*
  refine ak (by omega) (aq (by rw[zaS (by omega)];rfl) (ak (by omega) (ak (by omega) (ak (by omega) (ak (by omega) (ak (by omega) ?_))))));rw[<-List.map_drop,<-List.map_take];exact hp (qcV f _) true λ_=>⟨⟨_,qcZ hl hfr hct.1 hct.2.1 hct.2.2.1 hct.2.2.2⟩,by simp[qcV],hct.2.2.2⟩
 all_goals
  refine ak (by omega) ⟨_,f,rfl,rfl,QV,λe he=>⟨e,x.b,by rw[kF],rfl,⟨by rw[he];exact Sw,hx.b⟩,λa ha=> ?_⟩⟩;rw[qdE];have ha:a=aA\/iU (aP l v) a:=ha.imp_right λh=>Kp hL (he▸h);generalize x.c.tmod 5=k at*
  generalize x.c.tmod 2=d at*
  refine ak (by omega) (ak (by omega) (ak (by omega) (ak (by omega) (ak (by omega) ?_))));exact hp (qcU (fg l v r) f a _) (!(f==aA)) λh=>⟨⟨_,qcY hl (cO f hf h) ha huv.1⟩,huv.2,by simp[qcU]⟩)
theorem jV.all{i l K}(h:pX i l K){r}(h1:1<=r)(h2:r<=3): ∀M v,jV i K r v->(∀w∈M,w∈K)->jV i K r (mgA v M)
 | [],_,hv,_=>hv
 |w::M,v,hv,hM=>jV.all h h1 h2 M (nJ v w) (jV.merge h h1 h2 hv (hM w (.head _))) λx hx=>hM x (.tail _ hx)
theorem Zb: ∀M v,cT v=true->(∀w∈M,cT w=true)->cT (mgA v M)=true
 | [],_,hv,_=>hv
 |w::M,v,hv,hM=>Zb M (nJ v w) (EJ hv (hM w (.head _))) λx hx=>hM x (.tail _ hx)
theorem qdF v:bO PR 28 (D.sl 1 (bt v))=true:=by kernel_rfl
theorem qdG:LD X 23 5 (ah (aR 23 5) qlH):=LD.idx (by kernel_rfl) (by kernel_rfl) (.cons Va .nil) .nil
 (A:=List ar×List (List Int)×cN×Int×List Int) (B:=List Int) (λa v i=>dn5 a.1 a.2.1 a.2.2.1 a.2.2.2.1 v i) (λa=>a.2.1.length)
 (λa i v=>Nn a.2.2.2.2 a.2.1/\v=mgA a.2.2.2.2 (a.2.1.take i))
 (λa z=>z=(.exit 0,⟨120,[(2,.ref 0 0 0),(3,.ref 1 0 0),(4,.ref 2 0 0),(5,iD a.2.2.2.1),(6,vD (mgA a.2.2.2.2 a.2.1))],[(0,⟨0,none,bxW a.1 a.2.1⟩),(1,⟨0,none,qhI a.2.2.1⟩),(2,⟨0,none,.box 57 [.sl 3 0 0,.sl 4 0 0]⟩),(3,⟨0,none,pW false []⟩),(4,⟨0,none,arV false []⟩)]⟩))
 (by
  rintro⟨l,K,x,r,v0⟩ v i ae h0 bJ bs ⟨hc,hv⟩ hn bw
  try dsimp only at*
  (rw[<-qe6];delta SO HL gF Tc Zds Zl Zm ZJ Zt C5 vp je rJ b9 JJ Z8 Z7 Zh Zx Zi ZR Ze)
  have e1:D.nth (K.map λv=>D.sl 1 (bt v)) i.toNat=D.sl 1 (bt K[i.toNat]):=az _ _ _ bs;have gQ:0<=i/\i<((K.map λv=>D.sl 1 (bt v)).length:Int):=by rw[zaa];exact⟨h0,bJ⟩
  have hvo:cT v=true:=by rw[hv];exact Zb _ _ hc.2.1 λw hw=>hc.2.2 w (zbm hw)
  have hwo:=hc.2.2 _ (zas bs);have nq:mgA v0 (K.take (i.toNat+1))=nJ v K[i.toNat]:=by rw[hv];unfold mgA;rw[zaf bs,zaY];rfl
  have hl1:=pO hvo;have KT:=pO hwo;have hK:=hc.1;rw[e1];generalize K[i.toNat]=w at*
  refine bF gQ.2 (ak gQ (aq (qdF _) ⟨v,w,rfl,rfl,⟨?_,?_⟩,ak (by omega) (hn _ ⟨hc,nq.symm⟩)⟩))
  ·unfold j7;omega
  unfold j7;omega)
 (by
  rintro⟨l,K,x,r,v0⟩ v i ae hi ⟨hc,hv⟩ bw
  try dsimp only at*
  (rw[<-qe6];delta SO HL gF Tc Zds Zl Zm ZJ Zt C5 vp je rJ b9 JJ Z8 Z7 Zh Zx Zi ZR Ze)
  refine mD (by rw[zaa];omega) (bw _ (λh=>by cases h) ?_);rw[hv,zai];rfl)
 (by rintro s ae ⟨l,K,x,r,v,rfl,hc,hp⟩;refine⟨(l,K,x,r,v),v,rfl,⟨hc,rfl⟩,?_⟩;rintro z rfl;exact hp _ rfl)
theorem qil:FD X 23 Yr:=FD.mk (by kernel_rfl)
  (.cons qol (.cons Jg (.cons qcF (.cons Yh (.cons qmX .nil))))) (.cons qdG .nil) (by
 intro ps R ae hh;obtain⟨i,l,K,x,rfl,rfl,⟨⟨hl,hK,h0,hi⟩,hx⟩,hp⟩:=hh
 (rw[<-qop];delta Yp Zdv HL Sf ZdD ZdV ZdU VK yg yh yi BY CS BZ CT CU yV B0 B1 B2 B3 B4 wE wF wG yj Gh Z5 ZdR Yq Zt ZE fS Ld Za ZdO ZdI iu ZdN ZdL r4 ZdA ZdM Zl ZdJ ZdH ZdF Z8 Z7 Z9 ZdE SK ZdC Ks Zdz Zdy Te Yo Zh gF yw Zc6 Zdw Zy Zz Zv mM Zx Zi ZR C5 SO Tc Zds ZW Tf Tj vp je rJ b9 JJ Zdu)
 have hr:=xY hx.r.1 (show(0:Int)<3 by decide);have hxr:=hx.r;have hxa:=hx.a;have h3:=hK.len;have qJ:=hl.len;generalize x.r.tmod 3=q at*
 have vK:(1+q-1).toNat=q.toNat:=by omega
 have hqn:q.toNat<K.length:=by omega
 have e1:D.nth (K.map λv=>D.sl 1 (bt v)) q.toNat=D.sl 1 (bt K[q.toNat]):=az _ _ _ hqn;have hS:=jV.start hK (r:=1+q) (by omega) (by omega);have hv0:K.getD (1+q-1).toNat []=K[q.toNat]:=by rw[vK,zab,zad hqn];rfl
 rw[hv0] at hS;simp only[zbq,zaD,zaa,zao,zav,vK,e1];have u0:D.gW (D.sl 1 (bt K[q.toNat]))=bt K[q.toNat]:=rfl;rw[u0];have hNo:EM i l x l K:=⟨hl.mono,hK.mono,λ_ h=>h⟩
 have bI:=hp l K hNo;have hMo: ∀v g,jV i K (1+q) v->BG l v (1+q) g->(x.what.tmod 8≠7->g.dZ=(0,0))->EM i l x (l++[g]) (K.set q.toNat (bx (il v (1+q) (eV v (1+q)+1)))):=λv g hv hg hz=>by
  have:=hg.qgm hl hK ⟨h0,by omega⟩ (by omega) (by omega) hv;rw[vK] at this;refine⟨this.1,this.2,λh7 hy y hy2=> ?_⟩;rcases zaz.1 hy2 with h |h
  ·exact hy y h
  rw[zaJ.1 h];exact hz h7
 have hEq: ∀(g:ar) (u:List Int) (z:List D),D.agg [D.sl 7 ((l++[g]).map bZ),D.sl 1 ((K.set q.toNat u).map λv=>D.sl 1 (bt v))]=D.agg [D.sl 7 (List.take (l.length+1) (List.take l.length (l.map bZ)++[bZ g])),D.sl 1 (List.take K.length ((K.map λv=>D.sl 1 (bt v)).set q.toNat (D.aT (D.sl 1 z) [D.sl 1 (bt u)])))]:=λg u z=>by simp[D.aT,zb4,zak]
 refine ak (by omega) (ak (by omega) (ak (by omega) (ak (by omega) (aq (qdF _) (ay (λ_=>⟨l,K,x,1+q,K[q.toNat],rfl,⟨by omega,hS.vec.1,λw hw=>(hK.vec w hw).1⟩,λv hv=> ?a⟩) λ_=> ?b)))))
 case' a=>
  replace hS:jV i K (1+q) v:=by rw[hv];exact jV.all hK (by omega) (by omega) K _ hS λ_ h=>h
  clear hv
 case' b=>generalize K[q.toNat]=v at*
 all_goals
  have hvl:=pO hS.vec.1;have ha:=BD hS.vec.1 (1+q);have hb:=hS.vec.2 (1+q);have hm:=hl.gE h0 v;have wc:=(hl.known v).len;have hrk:aG K.length 24=true:=cL (by omega) (by omega);have hrl:aG l.length 88=true:=cL (by omega) (by omega);have qmY:aG (l.length+1) 88=true:=cL (by omega) (by omega);have hwo:=λg=>hMo v g hS;refine⟨l,v,rfl,rfl,⟨by omega,by omega⟩,λo ho=>⟨v,1+q,rfl,rfl,by omega,ak (by omega) ⟨o,by rw[kF],rfl,by rw[ho];omega,λt ht=>ak (by rw[ho] at ht;omega) (JP (λh7=> ?_) λh7=> ?_)⟩⟩⟩
  ·refine JP (λ_=>bI) λcO=> ?_;have hq2:=xY hxa.1 (show(0:Int)<(o.length:Int) by omega);generalize x.a.tmod (o.length:Int)=p at*
   have hpn:p.toNat<o.length:=by omega
   have e2:D.nth (o.map bZ) p.toNat=bZ o[p.toNat]:=az _ _ _ hpn;rw[e2];have hym:o[p.toNat]∈aP l v:=ho▸zas hpn;generalize o[p.toNat]=y at*
   refine ak (by omega) (aq (by rw[zaS (by omega)];rfl) (ak (by omega) (ak hpn (aq (mL _) ⟨v,1+q,_,rfl,rfl,⟨by omega,by omega,by omega⟩,λw hw=>aq (by rw[hrk];rfl) (ak (by omega) (ak (by omega) ?_))⟩))))
   try rw[vK,e1]
   refine ak hqn (aq (qdF _) (aq (by rw[hrl];rfl) (aq (by rw[qmY];simp) ?_)));rw[hw];have hg:=hp _ _ (hwo ⟨fg l v (1+q),eV v (1+q)+1,v,y.s,[]⟩ ⟨rfl,rfl,rfl,.inl ⟨y,hym,rfl,rfl⟩⟩ λh=>absurd h7 h);refine Eq.mp (congrArg (λz=>ae (P.d z,[])) ?_) hg;rw[ht,ho];exact hEq _ _ _
  refine⟨i,l,v,1+q,x,by rw[kF,ho,ht,ho];rfl,rfl,⟨hl,⟨h0,hi⟩,hx⟩,λu b hu=>ay (λ_=>bI) λcP=>⟨v,1+q,_,rfl,rfl,⟨by omega,by omega,by omega⟩,λw hw=>aq (by rw[hrk];rfl) (ak (by omega) (ak (by omega) ?_))⟩⟩;obtain⟨⟨m,H6⟩,hu2,hu3⟩:=hu (by simpa using cP)
  try rw[vK,e1]
  refine ak hqn (aq (qdF _) (aq (by rw[hrl];rfl) (aq (by rw[qmY];simp) ?_)));rw[hw];have hg:=hp _ _ (hwo ⟨fg l v (1+q),eV v (1+q)+1,v,(0,0),[u]⟩ ⟨rfl,rfl,rfl,.inr ⟨rfl,u,m,rfl,H6,hu2,hu3⟩⟩ λ_=>rfl);refine Eq.mp (congrArg (λz=>ae (P.d z,[])) ?_) hg;rw[ht,ho];exact hEq _ _ _)
theorem bG.le{i j l}(h:bG i l)(rY:i<=j):bG j l:=⟨h.GO,h.nd,λg hg=>by have:=h.sm g hg;exact⟨this.1,by omega,this.2.2⟩,by have:=h.len;omega⟩
theorem qmZ x:bO PR 60 (yy x)=true:=by kernel_rfl
def Zw m (b:List ar×List (List Int)) i:=if i=0 then ql m else hi3 m b.1 b.2 i
theorem qdH:LD X 9 3 (ah (aR 9 3) qlI):=LD.idx (by kernel_rfl) (by kernel_rfl) (.cons qil .nil) .nil
 (A:=List cN) (B:=List ar×List (List Int)) Zw (λm=>min m.length 16)
 (λm i b=>BM m/\(i=0->b=([],[[],[],[]]))/\WOk i b.1 b.2/\((∀x∈m,x.what.tmod 8≠7)-> ∀y∈b.1,y.dZ=(0,0)))
 (λm z=>(z=(.exit 0,⟨25,[(3,.ref 0 0 0)],[(0,⟨0,none,.box 57 [.d .e9,.sl 1 0 3]⟩),(1,⟨0,none,arV false [[],[],[]]⟩)]⟩))\/ ∃l K,EN m l/\z=(.exit 0,⟨25,[(3,.ref 0 0 0)],[(0,⟨0,none,bxW l K⟩)]⟩))
 (by
  rintro m ⟨l,K⟩ i ae h0 bJ bs ⟨hc,hb,hw,hz⟩ hn bw
  try dsimp only at*
  have hml:i<m.length:=by omega
  have hmn:i.toNat<m.length:=by omega
  have e1:D.nth (m.map yy) i.toNat=yy m[i.toNat]:=az _ _ _ hmn;have hx:=hc.2 _ (zas hmn);have gQ:0<=i/\i<((m.map yy).length:Int):=by rw[zaa];exact⟨h0,hml⟩
  have QU: ∀l' K',EM i l m[i.toNat] l' K'->ae (.normal,hi3 m l' K' (i+1)):=λl' K' h=>by
   have Hk:((i.toNat+1:Nat):Int)=i+1:=by omega
   have:=hn (l',K') ⟨hc,λh=>by omega,by rw[Hk];exact⟨h.1,h.2.1,by omega,by omega⟩,λhh=>h.2.2 (hh _ (zas hmn)) (hz hh)⟩;unfold Zw at this;rw[zan (by omega)] at this;exact this
  have hwi:WOk i l K:=by rw[show((i.toNat:Nat):Int)=i by omega] at hw;exact hw
  unfold Zw;by_cases ql:i=0
  ·rw[zap ql];subst ql;have hb:=hb rfl;cases hb
   (rw[<-qe8];delta Ow Ze0 b9 dQ K5 HL gF Tc ZO ZdY Zx Yq Te ZdZ ZdW)
   have e2:D.nth (m.map yy) 0=yy m[Int.toNat 0]:=e1;rw[e2];refine bF gQ.2 (ak gQ (aq (qmZ _) ⟨0,[],[[],[],[]],m[Int.toNat 0],rfl,rfl,⟨hwi,hx⟩,λl' K' h=>QU l' K' h⟩))
  rw[zan ql]
  (rw[<-qe7];delta b9 dQ K5 HL gF Tc Zl Zm wH ZdY Z8 Z7 Zh Zx Yq Te Ze ZdX ZdW;rw[e1])
  exact bF gQ.2 (bF (by omega) (ak gQ (aq (qmZ _) ⟨i,l,K,m[i.toNat],rfl,rfl,⟨hwi,hx⟩,λl' K' h=>ak (by omega) (QU l' K' h)⟩))))
 (by
  rintro m ⟨l,K⟩ i ae hi ⟨hc,hb,hw,hz⟩ bw
  try dsimp only at*
  unfold Zw;by_cases ql:i=0
  ·rw[zap ql]
   (rw[<-qe8];delta Ow Ze0 b9 dQ K5 HL gF Tc ZO ZdY Zx Yq Te ZdZ ZdW)
   exact mD (by rw[zaa];omega) (bw _ (λh=>by cases h) (.inl rfl))
  rw[zan ql]
  (rw[<-qe7];delta b9 dQ K5 HL gF Tc Zl Zm wH ZdY Z8 Z7 Zh Zx Yq Te Ze ZdX ZdW)
  have hH:EN m l:=⟨hw.1.le (by omega),hz⟩
  have hpp:=bw _ (λh=>by cases h) (.inr ⟨l,K,hH,rfl⟩);exact dY (λh1=>dY (λh2=>by rw[zaa] at h1;omega) λ_=>hpp) λ_=>hpp)
 (by
  rintro s ae ⟨m,rfl,hc,h1,h2⟩;refine⟨m,([],[[],[],[]]),by unfold Zw;rw[zap rfl],⟨hc,λ_=>rfl,⟨XX.1,XX.2,by decide,by decide⟩,λ_ y hy=>by cases hy⟩,?_⟩;rintro z (rfl | ⟨l,K,h,rfl⟩)
  ·exact h1
  exact h2 l K h)
theorem qm0:FD X 9 qlK:=FD.mk (by kernel_rfl) .nil (.cons qdH .nil) (by
 intro ps R ae hh;obtain⟨m,rfl,rfl,hs,h1,h2⟩:=hh
 (rw[<-qlJ];delta gF SO Z5Z ZN Ow Ze0 Z5 Ry b9 dQ ZdY)
 exact⟨m,rfl,hs,h1,λl _ h=>h2 l h⟩)
end
theorem EP{α:Type} f (P:D->Prop)(Q:α->Prop)(h1: ∀y,P y-> ∃x,y=f x/\Q x): ∀es,(∀y∈es,P y)-> ∃l:List α,es=l.map f/\ ∀x∈l,Q x
 | [],_=>⟨[],rfl,by simp⟩
 |y::es,hy=>by obtain⟨l,rfl,hl⟩:=EP f P Q h1 es λy h=>hy y (.tail _ h);obtain⟨x,rfl,hx⟩:=h1 y (hy y (.head _));exact⟨x::l,rfl,λz hz=>by rcases zat.1 hz with rfl |hz;exact hx;exact hl z hz⟩
theorem KN{n}(hw:(Lit.int .u8 n).wf=true):0<=n/\n<=255:=by
 have h1:IntKind.min .u8=0:=by decide
 have h2:IntKind.max .u8=255:=by decide
 replace hw:(decide (IntKind.min .u8<=n)&&decide (n<=IntKind.max .u8))=true:=hw
 rw[h1,h2,zac,zah,zah] at hw;exact hw
theorem qm1{m x}(h:II PR (m+3) 60 x): ∃d,x=yy d/\GU d:=by
 obtain⟨cs,rfl,hl,hf⟩:=IJ (k:=6) Tryz.underlying60 (by kernel_rfl) h;obtain⟨a,b,c,d,e,f,rfl⟩: ∃a b c d e f,cs=[a,b,c,d,e,f]:=by
  match cs,hl with
  | [a,b,c,d,e,f],_=>exact⟨a,b,c,d,e,f,rfl⟩
 have z0:PR.cellsOf 5=1:=by kernel_rfl
 have z3:PR.cellsOf 4=1:=by kernel_rfl
 have g0:=hf _ (zbE ..);have g1:=hf _ (zaI _ (zbE ..));have g2:=hf _ (zaI _ (zaI _ (zbE ..)));have g3:=hf _ (zaI _ (zaI _ (zaI _ (zbE ..))));have g4:=hf _ (zaI _ (zaI _ (zaI _ (zaI _ (zbE ..)))));have g5:=hf _ (zaI _ (zaI _ (zaI _ (zaI _ (zaI _ (zbE ..))))));simp only[z0,z3,zcD,List.drop_succ_cons,List.take_succ_cons,List.take_zero] at g0 g1 g2 g3 g4 g5;obtain⟨x0,rfl,h0⟩:=uO Tryz.underlying5 g0;obtain⟨x1,rfl,h1⟩:=uO Tryz.underlying5 g1;obtain⟨x2,rfl,h2⟩:=uO Tryz.underlying5 g2;obtain⟨x3,rfl,h3⟩:=uO Tryz.underlying5 g3;obtain⟨x4,rfl,h4⟩:=uO Tryz.underlying5 g4;obtain⟨x5,rfl⟩:=UN Tryz.underlying4 g5;exact⟨⟨x0,x1,x2,x3,x4,x5⟩,rfl,KN h0,KN h1,KN h2,KN h3,KN h4⟩
theorem qim{m x}(h:II PR (m+4) 22 x): ∃l,x= .sl 6 (l.map yy)/\BM l:=by
 obtain⟨es,rfl,hl,hy⟩:=Mb (k:=6) Tryz.underlying22 (by kernel_rfl) h;obtain⟨l,rfl,hq⟩:=EP yy _ GU (λy hy=>qm1 hy) es hy;refine⟨l,rfl,?_,hq⟩;rw[zaa] at hl;have:maxLen<=9223372036854775807:=by decide
 exact zaL hl this
theorem Z4{m s}(h: ∃g∈m,g.s=s):0<=iQ m s/\iQ m s<(m.length:Int):=by
 obtain⟨g,hg,e⟩:=h;have h1: ¬iQ m s<0:=λh=>by have:=(Bc _ _).1 h;rw[zcm] at this;exact this g hg (by simp[e])
 have h2:=(RW (λg:ar=>g.s==s) m).2 (by unfold iQ at h1;omega);obtain⟨h3,_⟩:=h2;exact⟨by omega,by unfold iQ at*;omega⟩
theorem ER{ae:PX×S->Prop}{on h t i x}(hx:x=bZ (uG t on i.toNat))(hp:ae (.normal,Sp on (h++[uG t on i.toNat]) t (i+1))):
  ae (PX.normal,S.mk 96 [(3,P.d (D.bool true)),(5,P.sl 0 0 (List.length on)),(6,P.d (D.int IntKind.i64 t)),(7,P.sl 1 0 (List.length h+List.length [x])),(8,P.d (D.int IntKind.i64 (i+(1:Int))))] [(0,En.mk 0 none (Obj.arr 27 false (List.map bC on))),(1,En.mk 0 none (Obj.arr 31 false (List.take (List.length h) (List.map bZ h)++[x])))]):=by
 subst hx;rw[b7];simp only[Sp,zaj,zao,zav,zaD] at hp⊢;exact hp
theorem qm2{t on i}(h0:0<=i)(h1:i<(on.length:Int)) ds (hd:ds=bt (if i.toNat=0 then [] else [0,0,0,0,i])):
  D.agg [D.int IntKind.i64 (t+(1:Int)+i),D.int IntKind.i64 (5:Int),D.int IntKind.i64 (i+(1:Int)),D.sl 1 ds,D.int IntKind.i64 (D.aj (D.au (D.nth (List.map bC on) (Int.toNat ((↑(List.length on):Int)-(1:Int)-i))) 0)),D.int IntKind.i64 (D.aj (D.au (D.nth (List.map bC on) (Int.toNat ((↑(List.length on):Int)-(1:Int)-i))) 1)),D.sl 18 []]=bZ (uG t on i.toNat):=by
 have hk:((i.toNat:Nat):Int)=i:=by omega
 have ej:Int.toNat ((↑(List.length on):Int)-(1:Int)-i)=on.length-1-i.toNat:=by omega
 have bK:on.length-1-i.toNat<on.length:=by omega
 rw[ej,az _ _ _ bK,hd];unfold bZ uG;rw[hk,zab,zad bK];rfl
section
variable{X:XF}
theorem qin:LD X 16 2 (ah (aR 16 2) gFt):=LD.find (by kernel_rfl) (by kernel_rfl) .nil .nil
 (A:=List ar×aF) (λa k=>ftH a.1 a.2 k) (λa=>a.1) (λa _ g=>g.s==a.2) (λa=>a.1.length<=1000000)
 (λa i=>(.ret,⟨20,[(0,.sl 0 0 a.1.length),(4,iD i)],[(0,⟨0,some 0,pW true a.1⟩)]⟩)) (λa=>(.exit 0,⟨20,[(0,.sl 0 0 a.1.length)],[(0,⟨0,some 0,pW true a.1⟩)]⟩)) (λ_ _ h=>by cases h) (λ_ h=>by cases h)
 (by
  rintro⟨m,s⟩ i ae hi hC h0 bJ ht hn
  try dsimp only at*
  (rw[<-qfm];delta nf ni Z5J K1 ZfA Zl Zm Zn je rJ Z8 Z7 Zh YX Zt oR CX fS rK qm Ze ln Z5A iY iu B6 r4 B7 SM)
  have e1:D.nth (m.map bZ) i.toNat=bZ m[i.toNat]:=az _ _ _ hi;rw[e1];refine bF bJ (ak ⟨h0,bJ⟩ (ak (by simpa using hi) (aq (mL _) ?_)));rw[show(D.aj (D.au (bZ m[i.toNat]) 0)==s.1&&(D.aj (D.au (bZ m[i.toNat]) 1)==s.2&&true))=(m[i.toNat].s==s) from VN m[i.toNat].s s];exact ay (λh=>ht h) λh=>ak (by omega) (hn h))
 (by
  rintro⟨m,s⟩ i ae hC hi hp
  try dsimp only at*
  (rw[<-qfm];delta nf ni Z5J K1 ZfA Zl Zm Zn je rJ Z8 Z7 Zh YX Zt oR CX fS rK qm Ze ln Z5A iY iu B6 r4 B7 SM)
  exact dY (λh=>by omega) λh=>hp)
 (by
  rintro st ae ⟨m,s,rfl,hl,h1,h2⟩;refine⟨(m,s),rfl,hl,λi hi h0 ht hb=>h1 i ?_ h0,λh=>h2 ?_⟩
  ·rw[iQ,JF hi ht hb];omega
  exact OC h)
theorem qio:FD X 16 qfl:=FD.mk (by kernel_rfl) .nil (.cons qin .nil) (by
 intro ps R ae hh;obtain⟨m,s,rfl,rfl,hm,hp⟩:=hh
 (rw[<-qoK];delta My ZfA YX Zt fS mM nf ni Z5J K1 Z5 ZK je rJ rK qm)
 exact⟨m,s,rfl,hm,λi hi _=>hp i hi,λh=>hp _ h.symm⟩)
theorem qdI:LD X 12 4 (ah (aR 12 4) qmA):=LD.idx (by kernel_rfl) (by kernel_rfl) .nil .nil
 (A:=List aF) (B:=Unit) (λa _ i=>qh7 a i) (λa=>a.length) (λa _ _=>a.length<=1000000) (λ_ x=>x=(.exit 0,⟨26,[],[]⟩))
 (by
  rintro a _ i ae h0 bJ bs hI hn ho
  try dsimp only at*
  (rw[<-YY];delta Zo Zl Zm Zn gb Ed B5 Z9r Z8 Z7 Zh Z2 Zg Ze Hn Gj uf qe SH Z4j)
  have e1:D.nth (a.map bC) i.toNat=bC a[i.toNat]:=az _ _ _ bs;have hm:i<((a.map bC).length:Int):=by rw[zaa];exact bJ
  rw[e1];exact bF hm (ak ⟨h0,hm⟩ (aq (iO _) (ak ⟨h0,hm⟩ (aq (iO _) (fJ (by simp) (ak (by omega) (hn () hI))))))))
 (by
  rintro a _ i ae hi hI ho
  try dsimp only at*
  (rw[<-YY];delta Zo Zl Zm Zn gb Ed B5 Z9r Z8 Z7 Zh Z2 Zg Ze Hn Gj uf qe SH Z4j)
  exact mD (by rw[zaa];omega) (ho _ (λh=>by cases h) rfl))
 (by rintro st ae ⟨a,rfl,hl,hp⟩;exact⟨a,(),rfl,hl,λx hx=>by rw[hx];exact hp⟩)
theorem qm3:FD X 12 qmC:=FD.mk (by kernel_rfl) .nil (.cons qdI .nil) (by
 intro ps R ae hh;obtain⟨a,rfl,rfl,ha,hp⟩:=hh
 (rw[<-qmB];delta ZL ZM eH B9 Z5 ZK gb Ed B5 Z9r Z2 Z3 qe)
 exact fJ (by simp) ⟨a,rfl,ha,hp⟩)
theorem qaa:LD X 5 10 (ah (aR 5 10) qfn):=LD.idx (by kernel_rfl) (by kernel_rfl) .nil .nil
 (A:=List aF×List ar×Int) (B:=List ar) (λa b i=>Sp a.1 b a.2.2 i) (λa=>a.1.length)
 (λa k b=>(a.1.length<=1000/\a.2.1.length<=1000/\0<=a.2.2/\a.2.2<=1000)/\b=a.2.1++yz a.2.2 a.1 k) (λa x=>x=(.exit 0,qmD a.1 (a.2.1++yz a.2.2 a.1 a.1.length)))
 (by
  rintro⟨on,h,t⟩ b i ae h0 bJ bs ⟨hI,rfl⟩ hn ho
  try dsimp only at*
  (rw[<-YZ];delta tT GM fS rP ZdL eH P0 gb ZfG Ow Zl ZfK Ld re Bo Zm rN Zt ZI sS P9 ZL Nw ZE Z5 ZfH iu qe ZfF Z8 Z7 ZfD ZfC Zh Zr S0)
  have hul:=PY t on i.toNat;have KO:ae (.normal,Sp on (h++yz t on i.toNat++[uG t on i.toNat]) t (i+1)):=hn _ ⟨hI,by rw[YU,zaK]⟩;have SD:(h++yz t on i.toNat).length<=1000000:=by rw[zaj];omega
  generalize h++yz t on i.toNat=b at*
  have hr: ∀x:D,(Nat.ble b.length (b.map bZ).length&&aG (b.length+[x].length) 88)=true:=λx=>by rw[zac];exact⟨by simp,cH SD (by omega)⟩
  have hj:Int.toNat ((↑(List.length on):Int)-(1:Int)-i)<on.length:=by omega
  have e1:bO PR 27 (D.nth (List.map bC on) (Int.toNat ((↑(List.length on):Int)-(1:Int)-i)))=true:=by rw[az _ _ _ hj];exact iO _
  have hj2:Int.toNat ((↑(List.length on):Int)-(1:Int)-i)<(List.map bC on).length:=by rw[zaa];exact hj
  refine bF bJ (dY (λhp=> ?_) λhp=> ?_)
  ·exact ak (by omega) (ak (by omega) (ak (by omega) (ak (by omega) (ak (by omega) (ak (by omega) (ak hj2 (aq e1 (aq (hr _) (ak (by omega) (ER (qm2 h0 bJ _ (by rw[zan (by omega)];rfl)) KO))))))))))
  exact ak (by omega) (ak (by omega) (ak (by omega) (ak (by omega) (ak (by omega) (ak (by omega) (ak hj2 (aq e1 (aq (hr _) (ak (by omega) (ER (qm2 h0 bJ _ (by rw[zap (by omega)];rfl)) KO)))))))))))
 (by
  rintro⟨on,h,t⟩ b i ae hi ⟨hI,rfl⟩ ho
  try dsimp only at*
  (rw[<-YZ];delta tT GM fS rP ZdL eH P0 gb ZfG Ow Zl ZfK Ld re Bo Zm rN Zt ZI sS P9 ZL Nw ZE Z5 ZfH iu qe ZfF Z8 Z7 ZfD ZfC Zh Zr S0)
  exact mD (by omega) (ho _ (λh=>by cases h) rfl))
 (by rintro st ae ⟨on,h,t,rfl,hI,hp⟩;exact⟨(on,h,t),h,rfl,⟨hI,by simp[yz]⟩,λx hx=>by rw[hx];exact hp _ rfl⟩)
theorem qab:LD X 5 18 (ah (aR 5 18) qfo):=LD.idx (by kernel_rfl) (by kernel_rfl) (.cons qio (.cons M8 .nil)) .nil
 (A:=List aF×List aF×List ar) (B:=Unit) (λa _ i=>qh8 a.1 a.2.1 a.2.2 i) (λa=>a.2.1.length)
 (λa _ _=>(a.1.length<=1000/\a.2.1.length<=1000/\a.2.2.length<=1000)/\(∀s∈a.2.1,∃g∈a.2.2,g.s=s)/\ ∀s∈a.2.1,s∉a.1) (λa x=>x=(.exit 2,qmE a.2.1 a.2.2))
 (by
  rintro⟨on,x,h⟩ _ i ae h0 bJ bs ⟨hI,hF,hN⟩ hn ho
  try dsimp only at*
  (rw[<-Y0];delta gb re S9 Cg eH fS rK ZL Nw ZfL Bo ZfN Zl Zm Z7z wR rP sS P9 Z8 Z7 Zh B9 MS xN Ze ln iY iu B6 r4 B7 Z2 ZfM Rb mM ZfA YX nf ni oQ Hn Gj Gk Ru uf qe Hq Z9t S0)
  have e1:D.nth (x.map bC) i.toNat=bC x[i.toNat]:=az _ _ _ bs;have hm:i.toNat<(x.map bC).length:=by rw[zaa];exact bs
  rw[e1];have hk:=Z4 (hF _ (zas bs));have bI:=hN _ (zas bs);have KO:=hn () ⟨hI,hF,hN⟩;generalize x[i.toNat]=s at*
  refine bF bJ (ak ⟨h0,bJ⟩ (ak hm (aq (iO _) ⟨h,s,rfl,rfl,by omega,λk qj=> ?_⟩)));rw[<-qj] at hk;have e2:D.nth (h.map bZ) k.toNat=bZ (h[k.toNat]'(by omega)):=az _ _ _ (by omega);rw[e2];refine mD (by omega) (ak hk (ak (by rw[zaa];omega) (aq (mL _) (ay (λ_=>ak ⟨h0,bJ⟩ (ak hm (aq (iO _) ⟨on,s,rfl,rfl,by omega,λb hb=> ?_⟩))) (λ_=> ?_)))))
  ·exact fJ (by rw[hb];exact zaS bI) (ak (by omega) KO)
  exact ak (by omega) KO)
 (by
  rintro⟨on,x,h⟩ _ i ae hi ⟨hI,hF,hN⟩ ho
  try dsimp only at*
  (rw[<-Y0];delta gb re S9 Cg eH fS rK ZL Nw ZfL Bo ZfN Zl Zm Z7z wR rP sS P9 Z8 Z7 Zh B9 MS xN Ze ln iY iu B6 r4 B7 Z2 ZfM Rb mM ZfA YX nf ni oQ Hn Gj Gk Ru uf qe Hq Z9t S0)
  exact mD (by omega) (ho _ (λh=>by cases h) rfl))
 (by rintro st ae ⟨on,x,h,rfl,hI,⟨hF,hN⟩,hp⟩;exact⟨(on,x,h),(),rfl,⟨hI,hF,hN⟩,λz hz=>by rw[hz];exact hp⟩)
end
theorem qdJ{g}(h:bG 16 g){m}(hm:m=g++yz (gE g) (c8 g) (c8 g).length):CW m/\(c8 g).length<=16/\m.length<=32/\(c8 m).length<=32/\(∀s∈c8 m,∃x∈m,x.s=s)/\(∀s∈c8 m,s∉c8 g)/\Ei (m.map j9)=c8 m:=by
 have h1:=h.qfk;have h2:=h.len;have hul:=PY (gE g) (c8 g) (c8 g).length;have hr:=pG h.qdw h.uNd;have hs:=(h.smS (by decide)).1;have hlen:m.length<=32:=by rw[hm,zaj];omega
 refine⟨⟨by omega,λy hy=> ?_⟩,h1,hlen,?_,λs hs=> ?_,λs hs=> ?_,?_⟩
 ·rw[hm] at hy;rcases zaz.1 hy with hy |hy
  ·exact hs.2 y hy
  obtain⟨k,hk,rfl⟩:=vI.1 hy;refine⟨λo ho=>(by cases ho),zbd _,?_⟩;show(if k=0 then [] else [0,0,0,0,(k:Int)]).length<=1000000;split<;>simp
 ·rw[hm];have:=Gq ((aJ (g++yz (gE g) (c8 g) (c8 g).length)).map j9);rw[zaa,hr,<-hm] at this;show(Ei ((aJ _).map j9)).length<=32;rw[hr,<-hm];omega
 ·rw[hm] at hs⊢;exact YV h.qdw h.uNd hs
 ·rw[hm] at hs;exact h.qmz hs
 rw[hm];show _=Ei ((aJ _).map j9);rw[hr]
theorem Sr:bG 16 []:=XX.1.le (by decide)
def qoP:a8:=λps R ae=> ∃m,ps=[.d (.sl 6 (m.map yy))]/\R=[]/\BM m/\ae (.d (.bool true),[])
theorem jY{α:Type}(f:α->D)(l:List α):List.take l.length (l.map f)=l.map f:=zak (by simp)
theorem qm4:FD xV6 5 qoP:=FD.mk (by kernel_rfl) (.cons qih (.cons qm0 (.cons qmU (.cons Yh (.cons qez (.cons qeA (.cons qm3 .nil))))))) (.cons qaa (.cons qab .nil)) (by
 intro ps R ae hh;obtain⟨m,rfl,rfl,hd,hp⟩:=hh
 (rw[<-qmF];delta ZdI iu ZdH SO gb re Bo Z5 wQ Bu Zt ZI eH sS P9 ZL Nw ZM B9 Ed Zc3 iR wK MR Z6O fS mM S9 ZfN Z7F wR rP ZfO Zx gF yw Ld Zc6 tT GM ZfP ZfQ)
 have core: ∀(g:List ar),bG 16 g-> ∀(on:List aF),on=c8 g-> ∀(t:Int),t=gE g-> ∀(n:List ar),n=g++yz t on on.length->(CW n/\on.length<=16/\n.length<=32/\(c8 n).length<=32/\(∀s∈c8 n,∃x∈n,x.s=s)/\(∀s∈c8 n,s∉on)/\Ei (n.map j9)=c8 n):=by intro g hg on ho t ht n hn;subst ho ht;exact qdJ hg hn
 have gt: ∀(g:List ar),bG 16 g-> ∀(t:Int),t=gE g->0<=t/\t<=1000:=λg hg t ht=>by have:=hg.time (by decide);omega
 have gn:=Sr;refine⟨rfl,rfl,m,rfl,rfl,hd,⟨[],rfl,rfl,(gn.smS (by decide)).1,λo ho=>⟨[],rfl,rfl,by simp,λt ht=> ?_⟩⟩,λg hg=>⟨g,rfl,rfl,(hg.1.smS (by decide)).1,λo ho=>⟨g,rfl,rfl,?_,λt ht=> ?_⟩⟩⟩
 ·have jT:=(core [] gn o ho t ht _ rfl).2.1;have htt:=gt [] gn t ht;refine⟨o,[],t,rfl,⟨by omega,by simp,htt⟩,λn hn=> ?_⟩;obtain⟨c1,c2,c3,c4,c5,c6,c7⟩:=core [] gn o ho t ht n hn;refine⟨n,by rw[jY],rfl,c1,λo2 SA=> ?_⟩;rw[<-SA] at c4 c5 c6 c7;refine⟨o,o2,n,rfl,⟨by omega,by omega,by omega⟩,⟨c5,c6⟩,n,by rw[jY],rfl,by omega,λo3 ho3=> ?_⟩;subst ho3;refine⟨n.map j9,by rw[jY],rfl,by rw[zaa];omega,λo4 ho4=> ?_⟩;rw[c7] at ho4;rw[ho4];exact⟨o2,by rw[jY],rfl,by omega,hp⟩
 ·have:=hg.1.len;omega
 have hl:=hg.1.len;have jT:=(core g hg.1 o ho t ht _ rfl).2.1;have htt:=gt g hg.1 t ht;refine aq (by rw[zac];exact⟨rfl,by rw[zaa,zaD];exact cL (by omega) (by omega)⟩) ⟨o,g,t,by rw[zaa,zaD];rfl,⟨by omega,by omega,htt⟩,λn hn=> ?_⟩;obtain⟨c1,c2,c3,c4,c5,c6,c7⟩:=core g hg.1 o ho t ht n hn;refine⟨n,by rw[jY],rfl,c1,λo2 SA=> ?_⟩;rw[<-SA] at c4 c5 c6 c7;refine⟨o,o2,n,rfl,⟨by omega,by omega,by omega⟩,⟨c5,c6⟩,n,by rw[jY],rfl,by omega,λo3 ho3=> ?_⟩;subst ho3;refine⟨n.map j9,by rw[jY],rfl,by rw[zaa];omega,λo4 ho4=> ?_⟩;rw[c7] at ho4;rw[ho4];exact⟨o2,by rw[jY],rfl,by omega,hp⟩)
theorem Ss xs (h:tE PR 8 [22] xs): ∃lf k R,fj PR (Oh xV6) lf k 5 (xs.map P.d) []=some (.d (.bool true),R):=by obtain⟨x,r,rfl,hx,h⟩:=fitAll_cons h;have e:=fitAll_nil h;subst e;obtain⟨l,rfl,hl⟩:=qim hx;obtain⟨lf,k,hr⟩:=qm4.run (y:=(.d (.bool true),[])) ⟨l,rfl,rfl,hl,rfl⟩;exact⟨lf,k,[],hr⟩
end Pi
