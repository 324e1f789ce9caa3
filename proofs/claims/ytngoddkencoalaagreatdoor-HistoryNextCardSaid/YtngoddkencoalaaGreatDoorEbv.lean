/- The texts Ef1 Ef1H Ef2 Ef2H Ef3 Ef3H VwP TrC T6 T6H T7 T7H T8 T8H T9 T9H RfP Rd RdH Ef4 Ef4H Ef5 Ef5H Ef6H Hi2 Hi2H Hi3H Hi4H Hi5 Hi5H UtP Vw1 Vw1H Rp. -/
import Derived.Test.YtngoddkencoalaaGreatDoorEbu
import Derived.Lib.IndexAny
namespace Pi
open Go Go.Proofs
set_option maxRecDepth 100000
set_option maxHeartbeats 0
def bL (h:Hd):D:= .agg [iE h.1.1,iE h.1.2,iE h.2.1,iE h.2.2]
abbrev arH (z:Bool) (l:List Hd):Obj:= .arr 132 z (l.map bL)
abbrev vQ (z:Bool) (l:List Hd):Obj:= .arr 139 z (l.map bL)
abbrev yF (l:List Hd):P:= .d (.sl 4 (l.map bL))
abbrev vR (l:List Hd):P:=ki (l.map (·.1))
abbrev vS (l:List Hd):P:=ki (l.map (·.2))
abbrev ehH (l out:List Hd) (f:D->Option D) (c i:Int):S:=⟨50,[(0,vR l),(1,vS l),(5,.sl 0 0 out.length),(6,.mp 1 0),(14,iD (min (((l.map (·.1)).map bh).length:Int) (((l.map (·.2)).map bh).length:Int))),(15,iD i)],[(0,⟨0,none,arH false out⟩),(1,⟨0,none,mpS f c⟩)]⟩
def RL (out:List Hd):En:=En.mk 0 none (Obj.arr (132:TypeId) false (List.map bL out))
def fN (out:List Hd):Nat:=List.length out
def qw (out:List Hd):P:=P.sl 0 0 (fN out)
def nV (l:List Hd):List D:=List.map bh (List.map (fun(x:Hd)=>Prod.fst x) l)
def Z5q (l:List Hd) (i:Int):D:=D.int .i64 (D.ah (D.aq (D.nth (nV l) (Zg i)) 0))
def RM (l:List Hd) (i:Int):D:=D.agg [Z5q l i,D.int .i64 (D.ah (D.aq (D.nth (nV l) (Zg i)) 1))]
def Z5A (l:List Hd) (i:Int):D:=D.agg [Z5q l i,D.int .i64 (D.ah (D.aq (D.nth (nV l) (Zg i)) (0+1)))]
def Z5B (l:List Hd) (i:Int) (f:D->Option D) (c:Int):List (Nat×En):=[(1,En.mk 0 none (Obj.map 30 (fun(k':D)=>bif D.nZ (Z5A l i) k' then some (D.int .i64 (D.ah (cD (f (Z5A l i)) Z7)+(1:Int))) else cY (Z5A l i) (cD (f (Z5A l i)) Z7) f k') (bif Option.isSome (f (RM l i)) then c else c+(1:Int)) false))]
def Jk (out:List Hd):List D:=List.take (fN out) (List.map bL out)
def qh (l:List Hd):List D:=List.map bh (List.map (fun(x:Hd)=>Prod.snd x) l)
def Vg (l:List Hd):Int:=min (↑(List.length (nV l)):Int) (↑(List.length (qh l)):Int)
def Z5y (l:List Hd) (i:Int):List (Nat×P):=[(6,P.mp 1 0),(14,P.d (D.int .i64 (Vg l))),(15,P.d (Zn i))]
def K3 (l:List Hd):Nat×P:=(1,P.d (D.sl 2 (qh l)))
def K4 (l:List Hd):Nat×P:=(0,P.d (D.sl 2 (nV l)))
def Z5v (l:List Hd) (i:Int):List D:=[D.agg [Z5q l i,D.int .i64 (D.ah (D.aq (D.nth (nV l) (Zg i)) 1)),D.int .i64 (D.ah (D.aq (D.nth (qh l) (Zg i)) 0)),D.int .i64 (D.ah (D.aq (D.nth (qh l) (Zg i)) 1))]]
def vT (out:List Hd):Nat:=List.length (List.map bL out)
def Z5s (l:List Hd) (i:Int) (f:D->Option D):D:=cD (cY (RM l i) (D.int .i64 (D.ah (cD (f (RM l i)) Z7)+(1:Int))) (cY (RM l i) (cD (f (RM l i)) Z7) f) (RM l i)) Z7
def Z5p (i:Int) (l:List Hd):Bool:=decide ((0:Int)<=i/\i<(↑(List.length (nV l)):Int))
theorem qaS (l out:List Hd) (f:D->Option D) (c i:Int) (post:PX×S->Prop):(bif decide (i<Vg l) then bif Z5p i l then bif cC PR (30:TypeId) (D.nth (nV l) (Zg i)) then bif cC PR (3:TypeId) (cD (f (RM l i)) Z7) then bif decide (Z9<=D.ah (cD (f (RM l i)) Z7)+(1:Int)/\D.ah (cD (f (RM l i)) Z7)+(1:Int)<=Za) then bif Z5p i l then bif cC PR (30:TypeId) (D.nth (nV l) (Zg i)) then bif cC PR (3:TypeId) (Z5s l i f) then bif D.ah (Z5s l i f)==(1:Int) then bif Z5p i l then bif cC PR (30:TypeId) (D.nth (nV l) (Zg i)) then bif decide ((0:Int)<=i/\i<(↑(List.length (qh l)):Int)) then bif cC PR (30:TypeId) (D.nth (qh l) (Zg i)) then bif Nat.ble (fN out) (vT out)&&aN (fN out+List.length (Z5v l i)) 32 then bif Zj i then post (PX.normal,S.mk 50 (K4 l::K3 l::(5,P.sl 0 0 (fN out+List.length (Z5v l i)))::Z5y l i) ((0,En.mk 0 none (Obj.arr (132:TypeId) false (Jk out++Z5v l i)))::Z5B l i f c)) else False else False else False else False else False else False else bif Zj i then post (PX.normal,S.mk 50 (K4 l::K3 l::(5,qw out)::Z5y l i) ((0,RL out)::Z5B l i f c)) else False else False else False else False else False else False else False else False else post (PX.exit 0,S.mk 50 [(5,qw out)] [(0,RL out)]))=(aD [] [] 68 3 (ehH l out f c i)) post:=by kernel_rfl
def gEh:S->K (PX×S):=fun st post=> ∃l,st=ehH l [] (fun _=>none) 0 0/\l.length<=1000000/\ ∀m,m=rG l->post (.exit 0,⟨50,[(5,.sl 0 0 m.length)],[(0,⟨0,none,arH false m⟩)]⟩)
def qia:bq:=fun ps R post=> ∃a b:Hd,ps=[.d (bL a),.d (bL b)]/\R=[]/\post (iD (pJ a.1.1 a.1.2 b.1.1 b.1.2),[])
def Z5E (a:Hd):P:=P.d (D.agg [D.int .i64 (Prod.fst (Prod.fst a)),D.int .i64 (Prod.snd (Prod.fst a))])
theorem qfZ (a b:Hd) (post:P×List (Nat×En)->Prop):(∃(t:Int) (r:Int) (t':Int) (r':Int),[Z5E a,Z5E b]=IG t r t' r'/\Zx/\post (P.d (D.int .i64 (pJ t r t' r')),[]))=(aJ [(66,tX)] [] 103 [.d (bL a),.d (bL b)] []) post:=by kernel_rfl
def Jl:bq:=RA 103 132 bL (fun h:Hd=>h.1) (fun a b=>lG a b)
def Z5H (m:List Hd):List (Nat×En):=[(0,En.mk 0 (some 0) (Obj.arr (132:TypeId) false (List.map bL m)))]
def qi (ar:List Hd):Prop:=fN ar<=1000000
def Z5F (l:List Hd):S:=S.mk 50 [K4 l,K3 l,(5,ZQ),(6,P.mp 1 0),(14,P.d (D.int .i64 (Vg l))),(15,P.d Z7)] [(0,En.mk 0 none (Obj.arr (132:TypeId) false [])),(1,M9)]
theorem qib (l:List Hd) (post:P×List (Nat×En)->Prop):(∃(ar:List Hd),Z5F l=Z5F ar/\qi ar/\ ∀(m:List Hd),m=rG ar-> ∃(l:List Hd),[qw m,P.fn (103:FuncId) []]=[qw l,P.fn (103:FuncId) []]/\Z5H m=Z5H l/\qi l/\ ∀(l':List Hd),List.Perm l' l->List.Pairwise (fun(a b:Hd)=>lG (Prod.fst b) (Prod.fst a)=false) l'->post (qw m,[(0,RL l')]))=(aJ [(102,Jl)] [(3,ae (aL 68 3) gEh)] 68 [vR l,vS l] []) post:=by kernel_rfl
def yG:bq:=fun ps R post=> ∃l,ps=[vR l,vS l]/\R=[]/\l.length<=1000000/\ ∀m,m=vM l->post (.sl 0 0 m.length,[(0,⟨0,none,arH false m⟩)])
abbrev er1 (l m:List Hd) (x:az) (f:D->Option D) (c i:Int):S:=⟨59,[(0,vR l),(1,vS l),(5,.ref 0 0 0),(6,.ref 1 0 0),(10,.mp 2 0),(19,.sl 3 0 m.length),(20,iD (m.length:Int)),(21,iD i)],[(0,⟨0,none,.box 30 [iD x.1,iD x.2]⟩),(1,⟨0,none,.box 30 [iD 0,iD 0]⟩),(2,⟨0,none,mpS f c⟩),(3,⟨0,none,arH false m⟩)]⟩
def zo:En:=En.mk 0 none (Obj.box (30:TypeId) (P.d Z7::qu))
def Hb (x:az):Nat×En:=(0,Ah x)
def Z5W (x:az) (f:D->Option D) (c:Int):List (Nat×En):=[Hb x,(1,zo),(2,Ag f c)]
def wC (m:List Hd) (i:Int):D:=D.nth (List.map bL m) (Zg i)
def Gc (m:List Hd) (i:Int):Int:=D.ah (D.aq (wC m i) 1)
def Dq (m:List Hd) (i:Int):Int:=D.ah (D.aq (wC m i) 0)
def XL (m:List Hd) (i:Int):D:=D.agg [D.int .i64 (Dq m i),D.int .i64 (Gc m i)]
def Z5T:Nat:=0+1+1+1
def ur (m:List Hd):Int:=(↑(fN m):Int)
def RN:Nat×P:=(10,P.mp 2 0)
def RO:Nat×P:=(6,iC)
def yH:Nat×P:=(5,bT)
def Dr (i:Int) (m:List Hd):Bool:=decide (Zg i<vT m)
def Ds (i:Int) (m:List Hd):Bool:=decide ((0:Int)<=i/\i<ur m)
def Ou (i:Int) (m:List Hd):Bool:=decide (i<ur m)
theorem RP (l m:List Hd) (x:az) (f:D->Option D) (c i:Int) (post:PX×S->Prop):(bif Ou i m then bif Ds i m then bif Dr i m then bif cC PR (132:TypeId) (wC m i) then bif Zj i then post (PX.normal,S.mk 59 [K4 l,K3 l,yH,RO,RN,(19,P.sl 3 0 (fN m)),(20,P.d (D.int .i64 (ur m))),(21,P.d (Zn i))] [Hb x,(1,zo),(2,En.mk 0 none (Obj.map 30 (fun(k':D)=>bif D.nZ (D.agg [D.int .i64 (Dq m i),D.int .i64 (D.ah (D.aq (wC m i) (0+1)))]) k' then some (D.agg [D.int .i64 (Dq m i),D.int .i64 (D.ah (D.aq (wC m i) (0+1))),D.int .i64 (D.ah (D.aq (wC m i) (0+1+1))),D.int .i64 (D.ah (D.aq (wC m i) Z5T))]) else f k') (bif Option.isSome (f (XL m i)) then c else c+(1:Int)) false)),(3,RL m)]) else False else False else False else False else post (PX.exit 0,S.mk 59 [K4 l,K3 l,yH,RO,RN] (Z5W x f c)))=(aD [] [] 37 4 (er1 l m x f c i)) post:=by kernel_rfl
abbrev qcQ (l out:List Hd) (had:Bool) (i k:Int):S:=⟨80,[(0,yF l),(3,.sl 0 0 out.length),(4,iD i),(5,.d (.bool had)),(6,iD k)],[(0,⟨0,none,vQ false out⟩)]⟩
def Z64 (i:Int) (l:List Hd):Bool:=decide ((0:Int)<=i/\i<(↑(vT l):Int))
noncomputable def Bv (out:List Hd) (k:Int):Bool:=cC PR (139:TypeId) (wC out k)
def Gd (out:List Hd):En:=En.mk 0 none (Obj.arr (139:TypeId) false (List.map bL out))
def zp (out:List Hd):Nat×En:=(0,Gd out)
def wE (out:List Hd):List (Nat×En):=[zp out]
def Ov:Nat×P:=(5,ZO)
def rM (out:List Hd):Nat×P:=(3,qw out)
def D1 (l:List Hd):Nat×P:=(0,P.d (D.sl 4 (List.map bL l)))
theorem RQ (l out:List Hd) (had:Bool) (i k:Int) (post:PX×S->Prop):(bif Ou k out then bif had then bif Zj k then post (PX.normal,S.mk 80 (D1 l::rM out::nf i::Ov::ZA k) (wE out)) else False else bif Ds k out then bif Dr k out then bif Bv out k then bif Z64 i l then bif Bv l i then bif Zj k then post (PX.normal,S.mk 80 (D1 l::rM out::nf i::(5,P.d (D.bool (Dq out k==Dq l i&&(Gc out k==Gc l i&&true))))::ZA k) (wE out)) else False else False else False else False else False else False else post (PX.exit 2,S.mk 80 [D1 l,rM out,nf i,(5,gh had)] (wE out)))=(aD [] [] 84 7 (qcQ l out had i k)) post:=by kernel_rfl
abbrev qic (l out:List Hd) (i k:Int):S:=⟨80,[(0,yF l),(3,.sl 0 0 out.length),(4,iD i),(7,iD k)],[(0,⟨0,none,vQ false out⟩)]⟩
def XM (out:List Hd) (k:Int):List D:=[D.int .i64 (Dq out k),D.int .i64 (Gc out k),D.int .i64 (D.ah (D.aq (wC out k) 2)),D.int .i64 (D.ah (D.aq (wC out k) 3))]
def XO (out:List Hd) (k:Int):D:=D.nth (List.map bL out) (Zc k)
def Z68 (out:List Hd) (k:Int):List D:=List.set (List.map bL out) (Zg k) (D.aV (D.agg (XM out k)) [D.int .i64 (D.ah (D.aq (XO out k) 0)),D.int .i64 (D.ah (D.aq (XO out k) 1)),D.int .i64 (D.ah (D.aq (XO out k) 2)),D.int .i64 (D.ah (D.aq (XO out k) 3))])
def Z65 (k:Int) (out:List Hd):Bool:=decide ((0:Int)<=k-(1:Int)/\k-(1:Int)<ur out)
theorem qcR (l out:List Hd) (i k:Int) (post:PX×S->Prop):(bif Zr k then bif Zb k then bif Z65 k out then bif decide (Zc k<vT out) then bif cC PR (139:TypeId) (XO out k) then bif Ds k out then bif Dr k out then bif Bv out k then∃(a:az) (b:az),[P.d (D.agg [D.int .i64 (D.ah (D.aq (XO out k) 0)),D.int .i64 (D.ah (D.aq (XO out k) 1))]),P.d (XL out k)]=ze a b/\Zx/\ ∀(r:Bool),r=lG a b->bif r then bif Zb k then bif Zb k then bif Z65 k out then bif decide (Zc k<vT out) then bif cC PR (139:TypeId) (XO out k) then bif Ds k out then bif Dr k out then bif Bv out k then bif Ds k out then bif Dr k out then bif Bv out k then bif Z65 k out then bif decide (Zc k<List.length (Z68 out k)) then bif cC PR (139:TypeId) (D.nth (Z68 out k) (Zc k)) then bif Zb k then post (PX.normal,S.mk 80 [D1 l,rM out,nf i,(7,Zs k)] [(0,En.mk 0 none (Obj.arr (139:TypeId) false (List.set (Z68 out k) (Zc k) (D.aV (D.agg [D.int .i64 (D.ah (D.aq (D.nth (Z68 out k) (Zc k)) 0)),D.int .i64 (D.ah (D.aq (D.nth (Z68 out k) (Zc k)) 1)),D.int .i64 (D.ah (D.aq (D.nth (Z68 out k) (Zc k)) 2)),D.int .i64 (D.ah (D.aq (D.nth (Z68 out k) (Zc k)) 3))]) (XM out k)))))]) else False else False else False else False else False else False else False else False else False else False else False else False else False else False else False else post (PX.exit 4,S.mk 80 (D1 l::rM out::Ai i) (wE out)) else False else False else False else False else False else False else False else post (PX.exit 4,S.mk 80 (D1 l::rM out::Ai i) (wE out)))=(aD [(14,lV)] [] 84 13 (qic l out i k)) post:=by kernel_rfl
abbrev RR (l out:List Hd) (i:Int):S:=⟨80,[(0,yF l),(3,.sl 0 0 out.length),(4,iD i)],[(0,⟨0,none,vQ false out⟩)]⟩
abbrev XP (l:List aj) (out:List Hd) (i:Int):S:=⟨26,[(0,bP l),(3,.sl 0 0 out.length),(4,iD i)],[(0,⟨0,none,vQ false out⟩)]⟩
def Vh (l:List aj) (i:Int):List D:=[D.int .i64 (D.ah (D.aq (gQ l i) 4)),D.int .i64 (D.ah (D.aq (gQ l i) 5))]
def Z6a (out:List Hd) (l:List aj) (i:Int):Nat:=fN out+List.length [D.agg (oS l i::oE l i::Vh l i)]
theorem RS (l:List aj) (out:List Hd) (i:Int) (post:PX×S->Prop):(bif oG i l then bif ji i l then bif ep l i then bif ji i l then bif ep l i then bif Nat.ble (fN out) (vT out)&&aN (Z6a out l i) 32 then bif Zj i then post (PX.normal,S.mk 26 (gi l::(3,P.sl 0 0 (Z6a out l i))::vi i) [(0,En.mk 0 none (Obj.arr (139:TypeId) false (Jk out++[D.agg (oS l i::oE l i::Vh l i)])))]) else False else False else False else False else False else False else post (PX.exit 0,S.mk 26 [rM out] (wE out)))=(aD [] [] 44 3 (XP l out i)) post:=by kernel_rfl
theorem XQ (h:Hd):cC PR 132 (bL h)=true:=by kernel_rfl
theorem uu (h:Hd):cC PR 139 (bL h)=true:=by kernel_rfl
def Ak (U:List az) (o:List Hd):Prop:= ∀x,x∈U↔(o.any fun y=>y.1==x)=true
theorem Ak.nil:Ak [] []:=fun x=>by simp
theorem Ak.had {U:List az} {o:List Hd} {x:az} (h:Ak U o) (hx:x∈U):Ak (x::U) o:=fun y=>by
 rw[zav,h y]
 constructor
 ·rintro(rfl |h2)
  ·exact(h _).1 hx
  ·exact h2
 ·exact .inr
theorem Ak.new {U:List az} {o:List Hd} {g:Hd} (h:Ak U o):Ak (g.1::U) (o++[g]):=fun y=>by
 rw[zav,h y,zcf,za9]
 simp only[zda,List.any_nil,zbT,zaS]
 constructor
 ·rintro(rfl |h2)
  ·exact .inr rfl
  ·exact .inl h2
 ·rintro(h2 |rfl)
  ·exact .inr h2
  ·exact .inl rfl
theorem Ge {l:List Hd} {i:Nat} (h:i<l.length):rG (l.take (i+1))=Ha (rG (l.take i)) l[i]:=by
 rw[zag h]
 unfold rG
 rw[za1]
 rfl
theorem K5 {o:List Hd} {h:Hd} (hx:(o.any fun x=>x.1==h.1)=true):Ha o h=o:=by
 unfold Ha
 rw[zao hx]
theorem K6 {o:List Hd} {h:Hd} (hx:(o.any fun x=>x.1==h.1)=false):Ha o h=o++[h]:=by
 unfold Ha
 rw[zam (by rw[hx];simp)]
theorem qf0:FC 103 qia:=FC.mk (H:=[(66,tX)]) (by kernel_rfl) (.cons qaK .nil) (by
 intro ps R post hh
 obtain⟨a,b,rfl,rfl,hp⟩:=hh
 (rw[<-qfZ];delta Zx Zt ZE IG Z5E)
 exact⟨_,_,_,_,rfl,rfl,hp⟩)
def qid:D->Hd
 | .agg [.int .i64 a,.int .i64 b,.int .i64 c,.int .i64 d]=>((a,b),(c,d))
 |_=>((0,0),(0,0))
section
variable {X:XF}
theorem XR:FD X 102 Jl:=XB (dec:=qid) (c:=fun a b=>pJ a.1.1 a.1.2 b.1.1 b.1.2)
 (fun cf=>FD.sJ Tryz.func102 (by kernel_rfl) (by kernel_rfl) fun ps R post h=>Ij (Dh h)) (fun _=>rfl) mP (fun x y=>(Da x.1 y.1).lt) (fun _=>⟨_,rfl⟩)
 (fun x y=>FC.qfJ qf0 ⟨x,y,rfl,rfl,rfl⟩) ⟨_,Tryz.func103,by kernel_rfl,by kernel_rfl⟩
theorem qcS:LD X 68 3 (ae (aL 68 3) gEh):=LD.idx (H:=[]) (hk:=[]) (by kernel_rfl) (by kernel_rfl) .nil .nil
 (A:=List Hd) (B:=List Hd×List az×Int) (fun l b i=>ehH l b.1 (cM b.2.1) b.2.2 i) (fun l=>l.length) (fun l i b=>l.length<=1000000/\b.1=rG (l.take i)/\Ak b.2.1 b.1/\b.2.1.length<=i)
 (fun l x=>x=(.exit 0,⟨50,[(5,.sl 0 0 (rG l).length)],[(0,⟨0,none,arH false (rG l)⟩)]⟩))
 (by
  rintro l ⟨o,U,c⟩ i post h0 bN bg ⟨qp,rfl,hU,Na⟩ hn ho
  dsimp only at*
  (rw[<-qaS];delta RL fN qw Zg nV Z5q RM Z7 Z5A Z5B Jk Zn qh Vg Z5y K3 K4 Za Z9 Zj Z5v vT Z5s Z5p)
  have e1:D.nth ((l.map (·.1)).map bh) i.toNat=bh l[i.toNat].1:=by rw[ay _ _ _ (by simpa using bg)];simp
  have e2:D.nth ((l.map (·.2)).map bh) i.toNat=bh l[i.toNat].2:=by rw[ay _ _ _ (by simpa using bg)];simp
  rw[e1,e2]
  simp only[ehH,zaa] at hn⊢
  have sX:=Ge bg
  have lX:=qg (l.take i.toNat)
  rw[zay] at lX
  generalize l[i.toNat]=g at sX
  have v1: ∀n:Int,D.ah (iE n)=n:=fun _=>rfl
  have t1:D.agg [D.int .i64 (D.ah (D.aq (bh g.1) 0)),D.int .i64 (D.ah (D.aq (bh g.1) 1))]=bh g.1:=rfl
  have t2:D.agg [D.int .i64 (D.ah (D.aq (bh g.1) 0)),D.int .i64 (D.ah (D.aq (bh g.1) 1)),D.int .i64 (D.ah (D.aq (bh g.2) 0)),D.int .i64 (D.ah (D.aq (bh g.2) 1))]=bL g:=rfl
  have g0:cD (cM U (bh g.1)) (.int .i64 0)=iE (U.count g.1:Int):=pQ U g.1
  have GU:=zbV (a:=g.1) (l:=U)
  have u2:=fun z=>Dk U g.1 z
  have u3:=fun z=>Dj U g.1 z
  have g1:cD (cM (g.1::U) (bh g.1)) (.int .i64 0)= .int .i64 ((U.count g.1:Int)+1):=by
   have:=pQ (g.1::U) g.1
   rw[zcb] at this
   exact this
  have zU:(U.count g.1:Int)=0↔ ¬g.1∈U:=by
   rw[<-zcR]
   omega
  have hcb:0<=(U.count g.1:Int)/\(U.count g.1:Int)<=1000000:=by omega
  generalize (U.count g.1:Int)=cn at g0 u2 u3 g1 zU hcb
  rw[t1,g0]
  simp only[v1]
  refine bJ (by omega) (ak ⟨h0,bN⟩ (ao (jP _) (ao (Aj _) (ak (by omega) ?_))))
  rw[u2,g1,u3]
  refine ak ⟨h0,bN⟩ (ao (jP _) (ao (Aj _) ?_))
  simp only[v1,zap,zat,zaF]
  refine Bt (fun h2=> ?_) fun h2=>ak (by omega) (hn (rG (l.take i.toNat),g.1::U,_) ⟨qp,?_,hU.had ?_,zbY Na⟩)
  ·refine ak ⟨h0,bN⟩ (ao (jP _) (ak ⟨h0,bN⟩ (ao (jP _) (ao ?_ (ak (by omega) ?_)))))
   ·rw[zab]
    exact⟨by simp,cj (by omega) (by omega)⟩
   ·have zY:((rG (l.take i.toNat)).any fun x=>x.1==g.1)=false:=by rw[<-zaV,<-hU g.1];exact zU.1 (by omega)
    have:=fun c':Int=>hn (rG (l.take i.toNat)++[g],g.1::U,c') ⟨qp,by rw[sX,K6 zY],hU.new,zbY Na⟩
    rw[t2,cq]
    simp only[zan,zap,zat,zaF] at this
    exact this _
  ·have hx:g.1∈U:=zaN fun h=>by have:=zU.2 h;omega
   rw[sX,K5 ((hU g.1).1 hx)]
  ·exact zaN fun h=>by have:=zU.2 h;omega)
 (by
  rintro l ⟨o,U,c⟩ i post hi ⟨qp,rfl,hU,Na⟩ ho
  dsimp only at*
  (rw[<-qaS];delta RL fN qw Zg nV Z5q RM Z7 Z5A Z5B Jk Zn qh Vg Z5y K3 K4 Za Z9 Zj Z5v vT Z5s Z5p)
  simp only[zaa]
  refine cA (fun h=>by omega) fun h=>ho _ (fun h=>by cases h) ?_
  rw[zak])
 (by
  rintro s post ⟨l,rfl,hs,hp⟩
  refine⟨l,([],[],0),by rw[Di],⟨hs,rfl,Ak.nil,by simp⟩,?_⟩
  rintro x rfl
  exact hp _ rfl)
theorem K7:FD X 68 yG:=FD.mk (H:=[(102,Jl)]) (hk:=[(3,ae (aL 68 3) gEh)]) (by kernel_rfl) (.cons XR .nil) (.cons qcS .nil) (by
 intro ps R post hh
 obtain⟨l,rfl,rfl,hs,hp⟩:=hh
 (rw[<-qib];delta RL Z5H fN qw qi M9 Z7 qh nV Vg ZQ K3 K4 Z5F)
 have hdl:=qg l
 refine⟨l,rfl,hs,fun m hm=>⟨m,rfl,rfl,by rw[hm];omega,fun l' Gf hpw=> ?_⟩⟩
 subst hm
 have e:=KU Gf hpw
 rw[<-Gf.length_eq,e]
 exact hp _ rfl)
end
abbrev fBk:Nat:=153
abbrev bkI (hs:List Hd) (i:Int):S:=⟨19,[(0,.mp 0 0),(1,.ref 1 0 0),(3,iD i)],[(0,⟨0,some 1,.ew⟩),(1,⟨0,some 0,.box 128 [.d (.sl 4 (hs.map bL))]⟩)]⟩
abbrev bkE (hs:List Hd):S:=⟨19,[(0,.mp 0 0),(1,.ref 1 0 0)],[(0,⟨0,some 1,.ew⟩),(1,⟨0,some 0,.box 128 [.d (.sl 4 (hs.map bL))]⟩)]⟩
abbrev onC (out:List az) (n:Nat) (f:D->Option D) (c:Int):S:=
 ⟨37,[(5,.ref 0 0 0),(6,.ref 2 0 0)],[(0,⟨0,none,.box 51 [.sl 1 0 n]⟩),(1,⟨0,none,.arr 30 false (out.map bh)⟩),(2,⟨0,none,.box 98 [.mp 3 0]⟩),(3,⟨0,none,mpS f c⟩)]⟩
abbrev XS:Option (List Nat×List Nat):=some ([5,6],[5,6])
theorem XU (hs:List Hd) (out:List az) (n:Nat) (f:D->Option D) (c:Int) (i:Int) (post:PX×S×PX×S->Prop):(bif decide (i>=(0:Int)) then bif decide ((0:Int)<=i/\i<(↑(List.length (List.map bL hs)):Int)) then bif cC PR 132 (D.nth (List.map bL hs) (Int.toNat i)) then bif cC PR 3 (cD (f (D.agg [D.int IntKind.i64 (D.ah (D.aq (D.nth (List.map bL hs) (Int.toNat i)) 0)),D.int IntKind.i64 (D.ah (D.aq (D.nth (List.map bL hs) (Int.toNat i)) 1))])) (D.int IntKind.i64 (0:Int))) then bif decide (D.ah (cD (f (D.agg [D.int IntKind.i64 (D.ah (D.aq (D.nth (List.map bL hs) (Int.toNat i)) 0)),D.int IntKind.i64 (D.ah (D.aq (D.nth (List.map bL hs) (Int.toNat i)) 1))])) (D.int IntKind.i64 (0:Int)))>(0:Int)) then bif decide ((-9223372036854775808:Int)<=i-(1:Int)/\i-(1:Int)<=(9223372036854775807:Int)) then post (PX.normal,S.mk 19 [(0,P.mp 0 0),(1,P.ref 1 0 0),(3,P.d (D.int IntKind.i64 (i-(1:Int))))] [(0,En.mk 0 (some 1) Obj.ew),(1,En.mk 0 (some 0) (Obj.box 128 [P.d (D.sl 4 (List.map bL hs))]))],PX.normal,S.mk 37 [(5,P.ref 0 0 0),(6,P.ref 2 0 0)] [(0,En.mk 0 none (Obj.box 51 [P.sl 1 0 n])),(1,En.mk 0 none (Obj.arr 30 false (List.map bh out))),(2,En.mk 0 none (Obj.box 98 [P.mp 3 0])),(3,En.mk 0 none (Obj.map 30 f c false))]) else False else bif Nat.ble n (List.length (List.map bh out))&&aN (n+List.length [D.agg [D.int IntKind.i64 (D.ah (D.aq (D.nth (List.map bL hs) (Int.toNat i)) 0)),D.int IntKind.i64 (D.ah (D.aq (D.nth (List.map bL hs) (Int.toNat i)) 1))]]) 16 then bif cC PR 3 (cD (f (D.agg [D.int IntKind.i64 (D.ah (D.aq (D.nth (List.map bL hs) (Int.toNat i)) 2)),D.int IntKind.i64 (D.ah (D.aq (D.nth (List.map bL hs) (Int.toNat i)) 3))])) (D.int IntKind.i64 (0:Int))) then bif decide ((-9223372036854775808:Int)<=D.ah (cD (f (D.agg [D.int IntKind.i64 (D.ah (D.aq (D.nth (List.map bL hs) (Int.toNat i)) 2)),D.int IntKind.i64 (D.ah (D.aq (D.nth (List.map bL hs) (Int.toNat i)) 3))])) (D.int IntKind.i64 (0:Int)))+(1:Int)/\D.ah (cD (f (D.agg [D.int IntKind.i64 (D.ah (D.aq (D.nth (List.map bL hs) (Int.toNat i)) 2)),D.int IntKind.i64 (D.ah (D.aq (D.nth (List.map bL hs) (Int.toNat i)) 3))])) (D.int IntKind.i64 (0:Int)))+(1:Int)<=(9223372036854775807:Int)) then bif decide ((-9223372036854775808:Int)<=i-(1:Int)/\i-(1:Int)<=(9223372036854775807:Int)) then post (PX.normal,S.mk 19 [(0,P.mp 0 0),(1,P.ref 1 0 0),(3,P.d (D.int IntKind.i64 (i-(1:Int))))] [(0,En.mk 0 (some 1) Obj.ew),(1,En.mk 0 (some 0) (Obj.box 128 [P.d (D.sl 4 (List.map bL hs))]))],PX.normal,S.mk 37 [(5,P.ref 0 0 0),(6,P.ref 2 0 0)] [(0,En.mk 0 none (Obj.box 51 [P.sl 1 0 (n+List.length [D.agg [D.int IntKind.i64 (D.ah (D.aq (D.nth (List.map bL hs) (Int.toNat i)) 0)),D.int IntKind.i64 (D.ah (D.aq (D.nth (List.map bL hs) (Int.toNat i)) 1))]])])),(1,En.mk 0 none (Obj.arr 30 false (List.take n (List.map bh out)++[D.agg [D.int IntKind.i64 (D.ah (D.aq (D.nth (List.map bL hs) (Int.toNat i)) 0)),D.int IntKind.i64 (D.ah (D.aq (D.nth (List.map bL hs) (Int.toNat i)) 1))]]))),(2,En.mk 0 none (Obj.box 98 [P.mp 3 0])),(3,En.mk 0 none (Obj.map 30 (fun(k':D)=>bif D.nZ (D.agg [D.int IntKind.i64 (D.ah (D.aq (D.nth (List.map bL hs) (Int.toNat i)) (0+1+1))),D.int IntKind.i64 (D.ah (D.aq (D.nth (List.map bL hs) (Int.toNat i)) (0+1+1+1)))]) k' then some (D.int IntKind.i64 (D.ah (cD (f (D.agg [D.int IntKind.i64 (D.ah (D.aq (D.nth (List.map bL hs) (Int.toNat i)) (0+1+1))),D.int IntKind.i64 (D.ah (D.aq (D.nth (List.map bL hs) (Int.toNat i)) (0+1+1+1)))])) (D.int IntKind.i64 (0:Int)))+(1:Int))) else cY (D.agg [D.int IntKind.i64 (D.ah (D.aq (D.nth (List.map bL hs) (Int.toNat i)) (0+1+1))),D.int IntKind.i64 (D.ah (D.aq (D.nth (List.map bL hs) (Int.toNat i)) (0+1+1+1)))]) (cD (f (D.agg [D.int IntKind.i64 (D.ah (D.aq (D.nth (List.map bL hs) (Int.toNat i)) (0+1+1))),D.int IntKind.i64 (D.ah (D.aq (D.nth (List.map bL hs) (Int.toNat i)) (0+1+1+1)))])) (D.int IntKind.i64 (0:Int))) f k') (bif Option.isSome (f (D.agg [D.int IntKind.i64 (D.ah (D.aq (D.nth (List.map bL hs) (Int.toNat i)) 2)),D.int IntKind.i64 (D.ah (D.aq (D.nth (List.map bL hs) (Int.toNat i)) 3))])) then c else c+(1:Int)) false))]) else False else False else False else False else False else False else False else post (PX.exit 0,S.mk 19 [(0,P.mp 0 0),(1,P.ref 1 0 0)] [(0,En.mk 0 (some 1) Obj.ew),(1,En.mk 0 (some 0) (Obj.box 128 [P.d (D.sl 4 (List.map bL hs))]))],PX.normal,S.mk 37 [(5,P.ref 0 0 0),(6,P.ref 2 0 0)] [(0,En.mk 0 none (Obj.box 51 [P.sl 1 0 n])),(1,En.mk 0 none (Obj.arr 30 false (List.map bh out))),(2,En.mk 0 none (Obj.box 98 [P.mp 3 0])),(3,En.mk 0 none (Obj.map 30 f c false))]))=(lY [] [] 94 4 2000000 XS 1 fBk 1 (bkI hs i,(.normal,onC out n f c))) post:=by kernel_rfl
def Bw (l:List Hd):List Hd:=KV l.reverse []
theorem RT (h:Hd) (l:List Hd):Bw (h::l)=Rr (Bw l) h:=by simp[Bw,KV]
theorem K8 (l:List Hd):(Bw l).length<=l.length:=by simpa [Bw] using sU l.reverse []
theorem qf1 (l:List Hd):Xv l=((Bw (vM l)).map (·.1)).reverse:=rfl
def jy (l:List Hd):List az:=(l.map (·.2)).reverse
theorem RU (l:List Hd):(jy l).length=l.length:=by simp[jy]
theorem Nc (l:List Hd) (h:Hd):jy (l++[h])=h.2::jy l:=by simp[jy]
theorem RV (l:List Hd) (x:az):x∈jy l↔(l.any fun y=>y.2==x)=true:=by
 simp[jy,zbx]
def gOn:yD:=fun y post=> ∃hs:List Hd,hs.length<=1000000/\(∃i:Int,i=(hs.length:Int)-1/\y=(bkI hs i,(.normal,onC [] 0 (fun _=>none) 0)))/\
 ∀c o f,o=Bw hs->f=cM (jy o)->post (.exit 0,bkE hs,(.normal,onC (o.map (·.1)) o.length f c))
section
variable {X:XF} {w0:World} (hX:dt PR w0 X.cf)
include hX
theorem qie:LY w0 94 4 1 fBk 1 (dY (aL fBk 1) gOn):=LY.par hX (H:=[]) (HN:=[]) (base:=2000000) (keep:=XS) D0 .nil .nil (by kernel_rfl) (by kernel_rfl) (by kernel_rfl)
 (A:=List Hd) (B:=Nat×Int×Int)
 (fun hs b=>(bkI hs b.2.1,(.normal,onC ((Bw (hs.drop b.1)).map (·.1)) (Bw (hs.drop b.1)).length (cM (jy (Bw (hs.drop b.1)))) b.2.2)))
 (fun hs b=>hs.length<=1000000/\b.1<=hs.length/\b.2.1=(b.1:Int)-1)
 (fun _ b=>b.1)
 (fun hs x=> ∃c,x=(.exit 0,bkE hs,(.normal,onC ((Bw hs).map (·.1)) (Bw hs).length (cM (jy (Bw hs))) c)))
 (by
  rintro hs ⟨k,i,c⟩ ⟨hm,hk,hi⟩
  dsimp only at*
  rw[<-XU]
  cases k with
  |zero=>
   refine lK (by omega) ?_
   exact⟨c,rfl⟩
  |succ k=>
   have bG:k<hs.length:=by omega
   have hik:i.toNat=k:=by omega
   have hl:=K8 (hs.drop (k+1))
   have hd:hs.drop k=hs[k]::hs.drop (k+1):=za2 bG
   have hdl:(hs.drop (k+1)).length<=1000000:=by simp;omega
   have e1:D.nth (hs.map bL) i.toNat=bL hs[k]:=by rw[hik];exact ay _ _ _ bG
   rw[e1]
   have ho:Bw (hs.drop k)=Rr (Bw (hs.drop (k+1))) hs[k]:=by rw[hd,RT]
   generalize hs[k]=h at ho
   generalize Bw (hs.drop (k+1))=on at ho hl
   have v1: ∀n:Int,D.ah (iE n)=n:=fun _=>rfl
   have t1:D.agg [D.int .i64 (D.ah (D.aq (bL h) 0)),D.int .i64 (D.ah (D.aq (bL h) 1))]=bh h.1:=rfl
   have t2:D.agg [D.int .i64 (D.ah (D.aq (bL h) 2)),D.int .i64 (D.ah (D.aq (bL h) 3))]=bh h.2:=rfl
   have g0:cD (cM (jy on) (bh h.1)) (.int .i64 0)=iE ((jy on).count h.1:Int):=pQ _ _
   have g2:cD (cM (jy on) (bh h.2)) (.int .i64 0)=iE ((jy on).count h.2:Int):=pQ _ _
   have u3:=fun z=>Dj (jy on) h.2 z
   have zU:(jy on).count h.1>0↔(on.any fun y=>y.2==h.1)=true:=by rw[<-RV];exact List.count_pos_iff
   have c1:=zbV (a:=h.1) (l:=jy on)
   have c2:=zbV (a:=h.2) (l:=jy on)
   rw[RU] at c1 c2
   have qcT:((jy on).count h.1:Int)>0↔(on.any fun y=>y.2==h.1)=true:=by rw[<-zU];omega
   have hcb:0<=((jy on).count h.2:Int)/\((jy on).count h.2:Int)<=1000000:=by omega
   rw[t1,t2,g0,g2,zaa]
   generalize ((jy on).count h.1:Int)=n1 at qcT⊢
   generalize ((jy on).count h.2:Int)=n2 at u3 hcb⊢
   simp only[v1,zap,zat,zaF]
   refine bJ (by omega) (ak ⟨by omega,by omega⟩ (ao (XQ _) (ao (Aj _) (cA (fun hu=>ak (by omega) ?_) fun hu=>ao ?_ (ao (Aj _) (ak (by omega) (ak (by omega) ?_)))))))
   ·refine⟨k,zcx k,(k,i-1,c),?_,⟨hm,by show k<=hs.length;omega,by show i-1=(k:Int)-1;omega⟩,rfl⟩
    rw[ho,Rr,zao (qcT.1 hu)]
   ·rw[zab]
    exact⟨by simp,cj (by omega) (by omega)⟩
   ·rw[u3]
    refine⟨k,zcx k,(k,i-1,bif (cM (jy on) (bh h.2)).isSome then c else c+1),?_,⟨hm,by show k<=hs.length;omega,by show i-1=(k:Int)-1;omega⟩,rfl⟩
    dsimp only
    have e:List.take on.length ((on.map (·.1)).map bh)++[bh h.1]=(on.map (·.1)++[h.1]).map bh:=by
     rw[zai (by simp),zaB]
     rfl
    rw[e,ho,Rr,zam (fun h=>hu (qcT.2 h)),Nc,zan,show(on++[h]).map (fun x:Hd=>x.1)=on.map (·.1)++[h.1] from zaB]
    rfl)
 (by
  rintro y post ⟨hs,h1,⟨i,hi,rfl⟩,h2⟩
  refine⟨hs,(hs.length,i,0),?_,⟨h1,zaj _,hi⟩,?_⟩
  ·dsimp only
   rw[zc0,show jy (Bw [])=[] from rfl,Di]
   rfl
  ·rintro x ⟨c,rfl⟩
   exact h2 c _ _ rfl rfl)
end
abbrev onA (l m:List Hd):S:=⟨37,[(0,vR l),(1,vS l),(4,.sl 1004 0 0),(5,.ref 1005 0 0),(6,.ref 1006 0 0),(9,.sl 1009 0 0),(10,.mp 1010 0),(11,vR l),(12,vS l),(13,.sl 1013000 0 m.length),(14,.fn fBk [.ref 1014000 0 0])],
 [(1004,⟨0,none,.arr 30 false []⟩),(1005,⟨0,none,.box 51 [.sl 1009 0 0]⟩),(1006,⟨0,none,.box 98 [.mp 1010 0]⟩),(1009,⟨0,none,.arr 30 false []⟩),(1010,⟨0,none,.map 30 (fun _=>none) 0 false⟩),(1005000,⟨0,none,.arr 30 false []⟩),(1013000,⟨0,none,arH true m⟩),(1014000,⟨0,none,.box 128 [.d (.sl 4 (List.take m.length (m.map bL)))]⟩)]⟩
theorem XV (l m:List Hd) (post:PX×S->Prop):(bif decide ((-9223372036854775808:Int)<=(↑(List.length (List.take (List.length m) (List.map bL m))):Int)-(1:Int)/\(↑(List.length (List.take (List.length m) (List.map bL m))):Int)-(1:Int)<=(9223372036854775807:Int)) then∃(hs:List Hd),List.length hs<=1000000/\(∃(i:Int),i=(↑(List.length hs):Int)-(1:Int)/\(S.mk 19 [(0,P.mp 0 0),(1,P.ref 1 0 0),(3,P.d (D.int IntKind.i64 ((↑(List.length (List.take (List.length m) (List.map bL m))):Int)-(1:Int))))] [(0,En.mk 0 (some 1) Obj.ew),(1,En.mk 0 (some 0) (Obj.box 128 [P.d (D.sl 4 (List.take (List.length m) (List.map bL m)))]))],PX.normal,S.mk 37 [(5,P.ref 0 0 0),(6,P.ref 2 0 0)] [(0,En.mk 0 none (Obj.box 51 [P.sl 1 0 0])),(1,En.mk 0 none (Obj.arr 30 false [])),(2,En.mk 0 none (Obj.box 98 [P.mp 3 0])),(3,En.mk 0 none (Obj.map 30 (fun(_:D)=>none) (0:Int) false))])=(S.mk 19 [(0,P.mp 0 0),(1,P.ref 1 0 0),(3,P.d (D.int IntKind.i64 i))] [(0,En.mk 0 (some 1) Obj.ew),(1,En.mk 0 (some 0) (Obj.box 128 [P.d (D.sl 4 (List.map bL hs))]))],PX.normal,S.mk 37 [(5,P.ref 0 0 0),(6,P.ref 2 0 0)] [(0,En.mk 0 none (Obj.box 51 [P.sl 1 0 0])),(1,En.mk 0 none (Obj.arr 30 false [])),(2,En.mk 0 none (Obj.box 98 [P.mp 3 0])),(3,En.mk 0 none (Obj.map 30 (fun(_:D)=>none) (0:Int) false))]))/\ ∀(c:Int) (o:List Hd) (f:D->Option D),o=Bw hs->f=cM (jy o)->post (PX.normal,S.mk 37 [(5,P.ref 0 0 0),(6,P.ref 2 0 0)] [(0,En.mk 0 none (Obj.box 51 [P.sl 1 0 (List.length o)])),(1,En.mk 0 none (Obj.arr 30 false (List.map bh (List.map (fun(x:Hd)=>Prod.fst x) o)))),(2,En.mk 0 none (Obj.box 98 [P.mp 3 0])),(3,En.mk 0 none (Obj.map 30 f c false))]) else False)=(wB [] [] (fun fi yt=>if Nat.beq fi fBk&&Nat.beq yt 1 then [(1,dY (aL fBk 1) gOn)] else []) 94 4 2000000 XS (onA l m)) post:=by kernel_rfl
abbrev lZ (z:Bool) (l:List az):Obj:= .arr 30 z (l.map bh)
def qcU:S->K (PX×S):=fun s post=> ∃l m,s=onA l m/\m.length<=1000000/\ ∀c o f,o=Bw m->post (.normal,onC (o.map (·.1)) o.length f c)
def RW:bq:=fun ps R post=> ∃l:List az,ps=[.sl 0 0 l.length]/\R=[(0,⟨0,some 0,lZ false l⟩)]/\l.length<=1000000/\ ∀l',l'=l.reverse->post (.cV [],[(0,⟨0,some 0,lZ false l'⟩)])
abbrev rvH (n:Nat) (l:List az) (i j:Int):S:=⟨28,[(0,.sl 0 0 n),(2,iD i),(3,iD j)],[(0,⟨0,some 0,lZ false l⟩)]⟩
def RX (l:List az):Nat×En:=(0,En.mk 0 (some 0) (Obj.arr (30:TypeId) false (eK l)))
def D2 (l:List az):List (Nat×En):=[RX l]
def qX (n:Nat):Nat×P:=(0,ZB n)
def Z6d (l:List az) (i:Int) (j:Int):List D:=List.set (eK l) (Zg i) (D.aV (D.agg (Ac l i)) (Ac l j))
def K9 (j:Int) (l:List az):Bool:=decide (Zg j<List.length (eK l))
def my (j:Int) (n:Nat):Bool:=decide ((0:Int)<=j/\j<(↑n:Int))
theorem qf2 (n:Nat) (l:List az) (i j:Int) (post:PX×S->Prop):(bif ZI i j then bif my j n then bif K9 j l then bif vK l j then bif my i n then bif K9 i l then bif vK l i then bif my i n then bif K9 i l then bif vK l i then bif my j n then bif decide (Zg j<List.length (Z6d l i j)) then bif cC PR (30:TypeId) (D.nth (Z6d l i j) (Zg j)) then bif Zj i then bif Zb j then post (PX.normal,S.mk 28 [qX n,(2,P.d (Zn i)),(3,Zs j)] [(0,En.mk 0 (some 0) (Obj.arr (30:TypeId) false (List.set (Z6d l i j) (Zg j) (D.aV (D.agg [D.int .i64 (D.ah (D.aq (D.nth (Z6d l i j) (Zg j)) 0)),D.int .i64 (D.ah (D.aq (D.nth (Z6d l i j) (Zg j)) 1))]) (Ac l i)))))]) else False else False else False else False else False else False else False else False else False else False else False else False else False else False else post (PX.exit 0,S.mk 28 [qX n] (D2 l)))=(aD [] [] 123 1 (rvH n l i j)) post:=by kernel_rfl
def gRv:S->K (PX×S):=fun st post=> ∃(l:List az) (n:Nat) (j:Int),st=rvH n l 0 j/\(n=l.length/\j=(n:Int)-1/\n<=1000000)/\post (.exit 0,⟨28,[(0,.sl 0 0 n)],[(0,⟨0,some 0,lZ false l.reverse⟩)]⟩)
theorem qif (n:Nat) (l:List az) (post:P×List (Nat×En)->Prop):(bif decide (Z9<=(↑n:Int)-(1:Int)/\(↑n:Int)-(1:Int)<=Za) then∃(ar:List az) (cF:Nat) (j:Int),S.mk 28 [qX n,(2,P.d Z7),(3,P.d (D.int .i64 ((↑n:Int)-(1:Int))))] (D2 l)=S.mk 28 (qX cF::(2,P.d Z7)::Zu j) (D2 ar)/\(cF=eu ar/\j=(↑cF:Int)-(1:Int)/\cF<=1000000)/\post (P.cV [],[(0,En.mk 0 (some 0) (Obj.arr (30:TypeId) false (List.map bh (List.reverse ar))))]) else False)=(aJ [] [(1,ae (aL 123 1) gRv)] 123 [.sl 0 0 n] [(0,⟨0,some 0,lZ false l⟩)]) post:=by kernel_rfl
def oH (l':List az):En:=En.mk 0 none (Obj.arr (30:TypeId) false (eK l'))
def Nd (l':List az):List (Nat×En):=[(0,oH l')]
def rN (l:List az):Prop:=eu l<=1000000
def zq (l:List az):P:=P.sl 0 0 (eu l)
def vU:En:=En.mk 0 none (Obj.arr (30:TypeId) false [])
def Z6j (l:List Hd) (m:List Hd):S:=S.mk 37 [K4 l,K3 l,(4,P.sl 1004 0 0),(5,P.ref 1005 0 0),(6,P.ref 1006 0 0),(9,P.sl 1009 0 0),(10,P.mp 1010 0),(11,P.d (D.sl 2 (nV l))),(12,P.d (D.sl 2 (qh l))),(13,P.sl 1013000 0 (fN m)),(14,P.fn (153:FuncId) [P.ref 1014000 0 0])] [(1004,vU),(1005,En.mk 0 none (Obj.box (51:TypeId) [P.sl 1009 0 0])),(1006,En.mk 0 none (Obj.box (98:TypeId) [P.mp 1010 0])),(1009,vU),(1010,M9),(1005000,vU),(1013000,En.mk 0 none (Obj.arr (132:TypeId) true (List.map bL m))),(1014000,En.mk 0 none (Obj.box (128:TypeId) [P.d (D.sl 4 (Jk m))]))]
def Z6h (l:List Hd):List P:=[P.d (D.sl 2 (nV l)),P.d (D.sl 2 (qh l))]
theorem qig (l:List Hd) (post:P×List (Nat×En)->Prop):(∃(ar:List Hd),Z6h l=Z6h ar/\Zx/\qi ar/\ ∀(m:List Hd),m=vM ar-> ∃(iF:List Hd) (bY:List Hd),Z6j l m=Z6j iF bY/\qi bY/\ ∀(_:Int) (o:List Hd) (_:D->Option D),o=Bw bY-> ∃(l:List az),[qw o]=[zq l]/\[(0,En.mk 0 (some 0) (Obj.arr (30:TypeId) false (nV o)))]=D2 l/\rN l/\ ∀(l':List az),l'=List.reverse l->post (qw o,Nd l'))=(rL [(68,yG),(123,RW)] [] [(500004,qcU)] 94 [vR l,vS l] []) post:=by kernel_rfl
def qcV:bq:=fun ps R post=> ∃l,ps=[vR l,vS l]/\R=[]/\l.length<=1000000/\ ∀o,o=Xv l->post (.sl 0 0 o.length,[(0,⟨0,none,lZ false o⟩)])
def mS (l:List az) (i:Nat):List az:=(List.range l.length).map fun p=>if p<i\/l.length-i<=p then l.getD (l.length-1-p) (0,0) else l.getD p (0,0)
theorem ib (l:List az) (i:Nat):(mS l i).length=l.length:=by simp[mS]
theorem mT (l:List az) (i p:Nat) (h:p<l.length):(mS l i)[p]'(by rw[ib];exact h)=if p<i\/l.length-i<=p then l.getD (l.length-1-p) (0,0) else l.getD p (0,0):=by simp[mS]
theorem Nf (l:List az):mS l 0=l:=by
 apply zbX (ib l 0)
 intro p h1 h2
 rw[mT l 0 p h2,zam (by omega)]
 exact dR h2 _
theorem RY (l:List az) (i:Nat) (h:l.length<=2*i+1):mS l i=l.reverse:=by
 apply zbX (by rw[ib];simp)
 intro p h1 h2
 have hp:p<l.length:=by rw[ib] at h1;exact h1
 rw[mT l i p hp,List.getElem_reverse]
 split
 ·exact dR (by omega) _
 ·rw[dR hp]
  congr 1
  omega
theorem Ng (l:List az) (i:Nat) (h:2*i+1<l.length):((mS l i).set i ((mS l i)[l.length-1-i]'(by rw[ib];omega))).set (l.length-1-i) ((mS l i)[i]'(by rw[ib];omega))=mS l (i+1):=by
 apply zbX (by simp[ib])
 intro p h1 h2
 have hp:p<l.length:=by rw[ib] at h2;exact h2
 rw[List.getElem_set,List.getElem_set,mT l (i+1) p hp,mT l i p hp,mT l i i (by omega),mT l i (l.length-1-i) (by omega)]
 by_cases e1:l.length-1-i=p
 ·rw[zao e1,zam (by omega),zao (by omega)]
  congr 1
  omega
 ·rw[zam e1]
  by_cases e2:i=p
  ·rw[zao e2,zam (by omega),zao (by omega)]
   congr 1
   omega
  ·rw[zam e2]
   by_cases e3:p<i\/l.length-i<=p
   ·rw[zao e3,zao (by omega)]
   ·rw[zam e3,zam (by omega)]
section
variable {X:XF}
theorem qcW:LD X 123 1 (ae (aL 123 1) gRv):=LD.par (H:=[]) (hk:=[]) (by kernel_rfl) (by kernel_rfl) .nil .nil
 (A:=List az) (B:=Nat×Int×Int) (fun l b=>rvH l.length (mS l b.1) b.2.1 b.2.2) (fun l b=>l.length<=1000000/\b.2.1=(b.1:Int)/\b.2.2=(l.length:Int)-1-b.1/\2*b.1<=l.length+1) (fun l b=>l.length-b.1)
 (fun l x=>x=(.exit 0,⟨28,[(0,.sl 0 0 l.length)],[(0,⟨0,some 0,lZ false l.reverse⟩)]⟩))
 (by
  rintro l ⟨k,i,j⟩ ⟨hm,hi,hj,hk⟩
  dsimp only at*
  (rw[<-qf2];delta eK RX D2 Zg IY G8 Ac Zs Zn ZB qX Za Z9 Zb Zj Z6d vK K9 my ZI)
  refine cA (fun qq=> ?_) fun qq=> ?_
  ·have bg:i.toNat=k:=by omega
   have Bx:j.toNat=l.length-1-k:=by omega
   have hrl:=ib l k
   have ei:D.nth ((mS l k).map bh) i.toNat=bh ((mS l k)[k]'(by omega)):=by rw[bg];exact ay _ _ _ (by omega)
   have ej:D.nth ((mS l k).map bh) j.toNat=bh ((mS l k)[l.length-1-k]'(by omega)):=by rw[Bx];exact ay _ _ _ (by omega)
   have kO:=Ng l k (by omega)
   have dG:k≠l.length-1-k:=by omega
   rw[ei,ej]
   have hx: ∀y,((mS l k).set k y)[l.length-1-k]'(by simp;omega)=(mS l k)[l.length-1-k]'(by omega):=fun y=>by rw[List.getElem_set_ne dG]
   generalize hxx:(mS l k)[k]'(by omega)=x at*
   generalize hyy:(mS l k)[l.length-1-k]'(by omega)=y at*
   have w1:D.aV (D.agg [D.int .i64 (D.ah (D.aq (bh x) 0)),D.int .i64 (D.ah (D.aq (bh x) 1))]) [D.int .i64 (D.ah (D.aq (bh y) 0)),D.int .i64 (D.ah (D.aq (bh y) 1))]=bh y:=rfl
   have w2:D.aV (D.agg [D.int .i64 (D.ah (D.aq (bh y) 0)),D.int .i64 (D.ah (D.aq (bh y) 1))]) [D.int .i64 (D.ah (D.aq (bh x) 0)),D.int .i64 (D.ah (D.aq (bh x) 1))]=bh x:=rfl
   have e3:D.nth ((mS l k).map bh |>.set i.toNat (bh y)) j.toNat=bh y:=by
    rw[<-zb0,bg,Bx,ay _ _ _ (by simp;omega),hx]
   rw[w1,e3,w2,<-zb0,<-zb0]
   refine ak ⟨by omega,by omega⟩ (ak (by simp;omega) (ao (jP _) (ak ⟨by omega,by omega⟩ (ak (by simp;omega) (ao (jP _) (ak ⟨by omega,by omega⟩ (ak (by simp;omega) (ao (jP _) (ak ⟨by omega,by omega⟩ (ak (by simp;omega) (ao (jP _) (ak (by omega) (ak (by omega) ?_)))))))))))))
   refine⟨l.length-(k+1),by omega,(k+1,i+1,j-1),?_,⟨hm,by show i+1=((k+1:Nat):Int);omega,by show j-1=(l.length:Int)-1-((k+1:Nat):Int);omega,by show 2*(k+1)<=l.length+1;omega⟩,rfl⟩
   dsimp only
   rw[<-kO,bg,Bx]
  ·show _=_
   rw[RY l k (by omega)])
 (by
  rintro s post ⟨l,n,j,rfl,⟨rfl,hj,hn⟩,hp⟩
  refine⟨l,(0,0,j),by dsimp only;rw[Nf],⟨hn,rfl,by show j=_;omega,by show 2*0<=_;omega⟩,?_⟩
  rintro x rfl
  exact hp)
theorem qcX:FD X 123 RW:=FD.mk (H:=[]) (hk:=[(1,ae (aL 123 1) gRv)]) (by kernel_rfl) .nil (.cons qcW .nil) (by
 intro ps R post hh
 obtain⟨l,rfl,rfl,hm,hp⟩:=hh
 (rw[<-qif];delta eu Zt Zu eK RX D2 Z7 ZB qX Za Z9)
 exact ak (by omega) ⟨l,l.length,_,rfl,⟨rfl,rfl,hm⟩,hp _ rfl⟩)
end
section
variable {X:XF} {w0:World} (hX:dt PR w0 X.cf)
include hX
theorem qih:FN w0 94 4 qcU:=FN.mk hX (H:=[]) (HN:=[]) D0 .nil .nil (base:=2000000) (keep:=XS) (by kernel_rfl) (hk:=fun fi yt=>if Nat.beq fi fBk&&Nat.beq yt 1 then [(1,dY (aL fBk 1) gOn)] else [])
 (by
  intro fi yt h zn hl
  split at hl
  ·rename_i hb
   rw[zab] at hb
   have e1:=zaf hb.1
   have e2:=zaf hb.2
   subst e1 e2
   unfold lk at hl
   split at hl
   ·rename_i he
    have e3:=zaf he
    subst e3
    cases hl
    exact⟨by kernel_rfl,qie hX⟩
   ·cases hl
  ·cases hl)
 (by
  rintro s post ⟨l,m,rfl,hm,hp⟩
  rw[<-XV]
  have e:List.take m.length (m.map bL)=m.map bL:=zai (by simp)
  rw[e,zaa]
  exact ak (by omega) ⟨m,hm,⟨_,rfl,rfl⟩,fun c o f h1 h2=>hp c o f h1⟩)
theorem qii:ND w0 94 qcV:=ND.mk hX (H:=[(68,yG),(123,RW)]) (HN:=[]) (hk:=[(500004,qcU)]) D0 (by kernel_rfl) (by kernel_rfl) (.cons K7 (.cons qcX .nil)) .nil (.range (qih hX) .nil) (by
 intro ps R post hh
 obtain⟨l,rfl,rfl,hm,hp⟩:=hh
 (rw[<-qig];delta eK oH Nd eu rN RX D2 nV zq fN qw Jk M9 vU qh K3 K4 Z6j qi Zx Z6h)
 have hl:=F5 l
 refine⟨l,rfl,rfl,hm,fun m U4=>⟨l,m,rfl,by rw[U4];omega,fun c o f ho=>⟨o.map (·.1),by rw[zaa],rfl,?_,fun l' Pj=> ?_⟩⟩⟩
 ·have:=K8 m
  rw[zaa,ho]
  subst U4
  omega
 ·have e:l'=Xv l:=by rw[Pj,ho,U4,qf1]
  have e2:o.length=l'.length:=by rw[Pj];simp
  rw[e2]
  exact hp l' e)
end
abbrev bc:=au×az
structure Tl where
 a:List au
 p:List Pl
 h:List bc
 g:List bc
def tl0:Tl:=⟨[],[],[],[]⟩
def rO (o:aW):Pl:=(o.node,o.parent,o.name,o.dir)
def fO (on:Bool) (o:aW):Bool:=o.kind==0 || (o.kind==1&&on)
def gj (on:Bool) (o:aW):Bool:=on&& !(o.kind==2)
def RZ (on:Bool) (s:az) (t:Tl) (o:aW) (k:Nat):Tl:=
 ⟨if fO on o=true then t.a++[(s.1,s.2,(k:Int))] else t.a,if fO on o=true then t.p++[rO o] else t.p,
  if gj on o=true then t.h++[(o.node,s)] else t.h,if on=true then t.g++o.b9.map (fun d=>(o.node,d)) else t.g⟩
def Gg (on:Bool) (s:az) (l:List aW) (t:Tl):Tl:=l.zipIdx.foldl (fun t p=>RZ on s t p.1 p.2) t
def tlG (on:List az) (t:Tl) (g:aj):Tl:=Gg (decide (g.s∈on)) g.s g.ops t
def vV (on:List az) (l:List aj):Tl:=l.foldl (tlG on) tl0
theorem yI {on:Bool} {s:az} {l:List aW} {t:Tl} {i:Nat} (h:i<l.length):Gg on s (l.take (i+1)) t=RZ on s (Gg on s (l.take i) t) l[i] i:=by
 unfold Gg
 rw[zag h,List.zipIdx_append,za1]
 simp[zay,zcd (Nat.le_of_lt h)]
theorem sY {on:List az} {l:List aj} {i:Nat} (h:i<l.length):vV on (l.take (i+1))=tlG on (vV on (l.take i)) l[i]:=by
 unfold vV
 rw[zag h,za1]
 rfl
def df (l:List aj):Nat:=(l.map fun g=>g.ops.length).sum
theorem lq:df []=0:=rfl
theorem iW (g:aj) (l:List aj):df (g::l)=g.ops.length+df l:=by simp[df]
theorem yJ (a b:List aj):df (a++b)=df a+df b:=by simp[df]
theorem qj (l:List aj) (i:Nat):df (l.take i)<=df l:=by
 have:=yJ (l.take i) (l.drop i)
 rw[zbR] at this
 omega
theorem rP {l:List aj} {i:Nat} (h:i<l.length):df (l.take (i+1))=df (l.take i)+l[i].ops.length:=by
 rw[zag h,yJ,iW,lq]
 omega
theorem By: ∀(l o:List aj),df (l.foldl ko o)<=df o+df l
 | [],o=>by simp[lq]
 |g::r,o=>by
  have h1:=By r (ko o g)
  have h2:df (ko o g)<=df o+g.ops.length:=by
   unfold ko
   split
   ·rw[yJ,iW,lq]
    omega
   ·omega
  rw[za8,iW]
  omega
theorem Jm (l:List aj):df (aH l)<=df l:=by simpa [aH,lq] using By l []
def uv (n:Nat) (t:Tl):Prop:=t.a.length=t.p.length/\t.a.length<=n/\t.h.length<=n/\t.g.length<=200*n
theorem uv.zero:uv 0 tl0:=⟨rfl,zaj _,zaj _,zaj _⟩
theorem uv.mono {n m:Nat} {t:Tl} (h:uv n t) (hm:n<=m):uv m t:=⟨h.1,by have:=h.2.1;omega,by have:=h.2.2.1;omega,by have:=h.2.2.2;omega⟩
theorem uv.op {n:Nat} {t:Tl} (h:uv n t) {on:Bool} {s:az} {o:aW} {k:Nat} (hd:o.b9.length<=200):uv (n+1) (RZ on s t o k):=by
 obtain⟨h0,h1,h2,h3⟩:=h
 unfold uv RZ
 refine⟨?_,?_,?_,?_⟩
 ·dsimp only
  split<;>simp[h0]
 ·dsimp only
  split
  ·simp;omega
  ·omega
 ·dsimp only
  split
  ·simp;omega
  ·omega
 ·dsimp only
  split
  ·simp;omega
  ·omega
theorem uv.ops {n:Nat} {t:Tl} (h:uv n t) {on:Bool} {s:az} {l:List aW} (hd: ∀o∈l,o.b9.length<=200): ∀i,i<=l.length->uv (n+i) (Gg on s (l.take i) t)
 |0,_=>by simpa [Gg] using h
 |i+1,hi=>by
  rw[yI hi]
  exact(uv.ops h hd i (by omega)).op (hd _ (zas hi))
theorem uv.grp {n:Nat} {t:Tl} (h:uv n t) {on:List az} {g:aj} (hd: ∀o∈g.ops,o.b9.length<=200):uv (n+g.ops.length) (tlG on t g):=by
 have:=uv.ops h (on:=decide (g.s∈on)) (s:=g.s) hd g.ops.length (zaj _)
 rwa [zak] at this
theorem R4 {s:az} {k n:Int} {o:aW} (h:kh s k o=some n):o.b9.length<=200:=by
 unfold kh at h
 split at h
 ·cases h
 ·rename_i hb
  by_cases h2:o.kind=2
  ·rw[zam (by omega),zam (by omega),zao h2] at h
   split at h
   ·rename_i hd
    have:=hd.2
    unfold mN at this
    rw[zab,zah] at this
    exact this.2
   ·cases h
  ·have:o.b9.length=0:=by
    simp only[zct,fq,jX,zab,za9,zaS] at hb
    rcases hb.1.1.2 with h |h
    ·exact absurd h h2
    ·exact h
   omega
theorem Gh {P:aW->Prop} {s:az} (hP: ∀k n o,kh s k o=some n->P o): ∀(l:List aW) (k:Int),iT s k l=true-> ∀o∈l,P o
 | [],_,_,_,h=>by cases h
 |o::r,k,h,x,hx=>by
  unfold iT at h
  split at h
  ·rename_i n hn
   rcases zav.1 hx with rfl |hx
   ·exact hP k n _ hn
   ·exact Gh hP r _ h x hx
  ·cases h
theorem Dt {g:aj} (h:cx g=true):iT g.s 0 g.ops=true:=by
 unfold cx at h
 rw[zab] at h
 have h2:=h.2
 split at h2
 ·simp only[zab,zaS] at h2
  rw[zax h2.2]
  rfl
 ·rw[zab] at h2
  exact h2.2
theorem sZ {g:aj} (h:cx g=true): ∀o∈g.ops,o.b9.length<=200:=Gh (P:=fun o=>o.b9.length<=200) (fun _ _ _ h=>R4 h) _ _ (Dt h)
theorem s5 {g:aj} (h:cx g=true):g.ops.length<=200:=by
 unfold cx at h
 rw[zab] at h
 have h2:=h.2
 split at h2
 ·simp only[zab,zaS] at h2
  omega
 ·rw[zab,zah] at h2
  exact h2.1.2
theorem Bz {on:List az} {l:List aj} (hc: ∀g∈l,cx g=true): ∀i,i<=l.length->uv (df (l.take i)) (vV on (l.take i))
 |0,_=>by simpa [vV,lq] using uv.zero
 |i+1,hi=>by
  rw[sY hi,rP hi]
  exact(Bz hc i (by omega)).grp (sZ (hc _ (zas hi)))
def SmV (l:List aj):Prop:=df l<=1000
def Rt (T:List Pl):Prop:=Uq T/\ ∀p∈T,yj p=true
theorem qcY {T:List Pl} (h:Rt T) (p:Pl):Rt (II T p):=by
 unfold II
 split
 ·exact h
 ·rename_i h0
  split
  ·rename_i hp
   refine⟨?_,fun q hq=> ?_⟩
   ·unfold Uq
    rw[zaB,za0]
    refine⟨h.1,by simp,fun a ha b hb=> ?_⟩
    simp at hb
    subst hb
    intro e
    obtain⟨q,hq,hqa⟩:=zaA.1 ha
    apply h0
    unfold eb
    rw[List.find?_isSome]
    exact⟨q,hq,by simp[hqa,e]⟩
   ·rcases zaG.1 hq with hq |hq
    ·exact h.2 q hq
    ·simp at hq;subst hq;exact hp
  ·exact h
theorem R5: ∀(l T:List Pl),Rt T->Rt (l.foldl II T)
 | [],_,h=>h
 |p::r,_,h=>R5 r _ (qcY h p)
theorem R6 (l:List Pl):Rt (oO l):=R5 l [] ⟨by simp[Uq],by simp⟩
theorem XW (T:List Pl) (p:Pl):(II T p).length<=T.length+1:=by
 unfold II
 split
 ·omega
 ·split
  ·simp
  ·omega
theorem La: ∀(l T:List Pl),(l.foldl II T).length<=T.length+l.length
 | [],_=>by simp
 |p::r,T=>by
  have:=La r (II T p)
  have:=XW T p
  simp only[za8,zap]
  omega
theorem Du (l:List Pl):(oO l).length<=l.length:=by simpa [oO] using La l []
def Nh (L:List Pl) (p:Pl):List UInt8:=if L.any (fun q=>decide (q.2.1=p.2.1)&&(q.2.2.1==p.2.2.1)&&mh q.1 p.1) then(lb p.2.2.1 p.1.1 p.1.2.1 p.1.2.2).1 else p.2.2.1
def Lb (T:List Pl) (live:List au) (x:au):List UInt8:=match eb T x with |some p=>Nh (bb T live) p |none=>[]
def Jn (T:List Pl) (live:List au) (x:au):List (List UInt8):=match wy T x with |some w=>w.reverse.map (Lb T live)|none=>[]
def Lc (T:List Pl) (live:List au) (x:au):List UInt8:=pI (Jn T live x)
abbrev It:=au×List UInt8×Bool×Bool
def lr (T:List Pl) (live:List au) (p:Pl):It:=(p.1,Lc T live p.1,p.2.2.2,!decide (p.1∈live))
abbrev Gj (a b:It):Bool:=Op.bytesLess a.2.1 b.2.1
def jQ (T:List Pl) (live:List au):List It:=cc Gj ((bb T live).map (lr T live))
section
variable {T:List Pl} {live:List au}
theorem qcZ {p:Pl} (h:yj p=true):(lb p.2.2.1 p.1.1 p.1.2.1 p.1.2.2).1=p.2.2.1++126::Bf p.1.1 p.1.2.1 p.1.2.2:=by
 simp only[yj,zab] at h
 rw[lb,zao h.2,zao h.1]
theorem R7 {x:au} {p:Pl} (h:marked T live x=true) (hp:eb T x=some p):p∈bb T live:=by
 obtain⟨h1,h2⟩:=jv hp
 exact zb3.2 ⟨h1,by rw[h2];exact h⟩
theorem R8 {x:au} {w:List au} (h:Up T x w):Jn T live x=w.reverse.map (Lb T live):=by
 unfold Jn
 rw[IK.2 h]
theorem XX {p:Pl} (h:p∈bb T live):p∈T/\marked T live p.1=true:=by
 unfold bb at h
 rw[zb3] at h
 exact h
end
def fw (x:It):D:=itD x.1.1 x.1.2.1 x.1.2.2 x.2.1 x.2.2.1 x.2.2.2
theorem qf3 (x:It):cC PR 72 (fw x)=true:=by
 obtain⟨⟨a,b,c⟩,d,e,f⟩:=x
 kernel_rfl
theorem wF (L:List Pl) {p:Pl} (h:yj p=true):(Nh L p).length<=200:=by
 have h':=h
 simp only[yj,zab] at h'
 have hn:p.2.2.1.length<=32:=by
  have:=h'.2
  simp only[dH,zah] at this
  exact this.2.1
 unfold Nh
 split
 ·rw[qcZ h]
  have hr:=h'.1
  simp only[cp,zah] at hr
  have l1:=gA (n:=p.1.1) (by omega) (by omega)
  have l2:=gA (n:=p.1.2.1) (by omega) (by omega)
  have l3:=gA (n:=p.1.2.2) (by omega) (by omega)
  simp[Bf]
  omega
 ·omega
theorem R9: ∀(l:List (List UInt8)),(∀s∈l,s.length<=200)->WR l<=201*l.length
 | [],_=>by simp[WR,pI]
 |s::r,h=>by
  have h1:=R9 r fun x hx=>h x (by simp[hx])
  have h2:=h s (by simp)
  simp only[WR,pI,zcq,zan,zap] at h1⊢
  omega
theorem Ni {T:List Pl} {V:List au} (hT:Rt T) {x:au} {w:List au} (hw:Up T x w):WR (w.reverse.map (Lb T V))<=201*T.length:=by
 have:=R9 (w.reverse.map (Lb T V)) fun s hs=>by
  obtain⟨u,hu,rfl⟩:=zaA.1 hs
  obtain⟨w',h1,_⟩:=hw.sub u (by simpa using hu)
  obtain⟨p,hp⟩:=h1.at
  unfold Lb
  rw[hp]
  exact wF _ (hT.2 p (jv hp).1)
 have hl:=hw.len
 simp only[zaa,List.length_reverse] at this
 omega
section
variable {X:XF} {w0:World} (hX:dt PR w0 X.cf)
include hX
end
def qx {α:Type} (f:α->Bool) (l:List α):Int:=match l.findIdx? f with |some i=>(i:Int)|none=> -1
abbrev bxI (n:Nat) (x:au):List (Nat×En):=[(n,⟨0,none,.box 50 [.d (.int .i64 x.1),.d (.int .i64 x.2.1),.d (.int .i64 x.2.2)]⟩)]
abbrev qc0 (l:List Pl) (x:au) (k:Int):S:=⟨20,[(0,eG l),(3,.ref 0 0 0),(5,iD k)],bxI 0 x⟩
def eM (l:List Pl) (x:au):Int:=qx (fun p:Pl=>p.1==x) l
def qc1:S->K (PX×S):=fun s post=> ∃l x,s=qc0 l x 0/\l.length<=1000000/\(∀i:Int,i=eM l x->0<=i->post (.ret,⟨20,[(0,eG l),(4,iD i)],[]⟩))/\(eM l x= -1->post (.exit 0,⟨20,[(0,eG l)],[]⟩))
def oT (x:au):En:=En.mk 0 none (Obj.box (50:TypeId) [P.d (gC x),P.d (gB x),P.d (gO x)])
def vW (x:au):Nat×En:=(0,oT x)
def Jo (x:au):List (Nat×En):=[vW x]
def im (l:List Pl):List D:=List.map bI l
def lB (l:List Pl):P:=P.d (D.sl 8 (im l))
def tD (l:List Pl):Nat×P:=(0,lB l)
def oh (l:List Pl) (k:Int):D:=D.nth (im l) (Zg k)
def Z6u (l:List Pl) (k:Int) (x:au):Bool:=D.ah (D.aq (oh l k) 0)==Prod.fst x&&(D.ah (D.aq (oh l k) 1)==h9 x&&true)&&(D.ah (D.aq (oh l k) 2)==gP x&&true)
noncomputable def qy (l:List Pl) (k:Int):Bool:=cC PR (104:TypeId) (oh l k)
def r5 (l:List Pl):Nat:=List.length (im l)
def Gk (k:Int) (l:List Pl):Bool:=decide ((0:Int)<=k/\k<(↑(r5 l):Int))
def Z6q (k:Int) (l:List Pl):Bool:=decide (k<(↑(r5 l):Int))
theorem qaT (l:List Pl) (x:au) (k:Int) (post:PX×S->Prop):(bif Z6q k l then bif Gk k l then bif qy l k then bif Z6u l k x then post (PX.ret,S.mk 20 (tD l::Ai k) []) else bif Zj k then post (PX.normal,S.mk 20 (tD l::dF::Zo k) (Jo x)) else False else False else False else post (PX.exit 0,S.mk 20 [tD l] []))=(aD [] [] 87 2 (qc0 l x k)) post:=by kernel_rfl
def jR (ar:List Pl):Nat:=List.length ar
def nW (ar:List Pl):Prop:=jR ar<=1000000
theorem qc2 (l:List Pl) (x:au) (post:P×List (Nat×En)->Prop):(∃(ar:List Pl) (aI:au),S.mk 20 (tD l::dF::ZN) (Jo x)=S.mk 20 (tD ar::dF::ZN) (Jo aI)/\nW ar/\(∀(i:Int),i=eM ar aI->(0:Int)<=i->post (P.d (Zt i),[]))/\(eM ar aI=(-1:Int)->oN post))=(aJ [] [(2,ae (aL 87 2) qc1)] 87 [eG l,.d (bB x)] []) post:=by kernel_rfl
def Sb:bq:=fun ps R post=> ∃l x,ps=[eG l,.d (bB x)]/\R=[]/\l.length<=1000000/\post (iD (eM l x),[])
abbrev BA (z:Bool) (l:List Pl):List (Nat×En):=[(0,⟨0,some 0,.arr 104 z (l.map bI)⟩)]
abbrev qc3 (z:Bool) (l:List Pl) (n:Nat) (x:au) (k:Int):S:=⟨20,[(0,.sl 0 0 n),(3,.ref 1 0 0),(5,iD k)],BA z l++bxI 1 x⟩
def Sc:S->K (PX×S):=fun s post=> ∃z l x,s=qc3 z l l.length x 0/\l.length<=1000000/\(∀i:Int,i=eM l x->0<=i->post (.ret,⟨20,[(0,.sl 0 0 l.length),(4,iD i)],BA z l⟩))/\(eM l x= -1->post (.exit 0,⟨20,[(0,.sl 0 0 l.length)],BA z l⟩))
def Sd (x:au):List (Nat×En):=[(1,oT x)]
def Nj (z:Bool) (l:List Pl):Nat×En:=(0,En.mk 0 (some 0) (Obj.arr (104:TypeId) z (im l)))
def D3 (z:Bool) (l:List Pl):List (Nat×En):=[Nj z l]
def Hc (k:Int) (l:List Pl):Bool:=decide (Zg k<r5 l)
def Se (k:Int) (n:Nat):Bool:=decide (k<(↑n:Int))
theorem Sf (z:Bool) (l:List Pl) (n:Nat) (x:au) (k:Int) (post:PX×S->Prop):(bif Se k n then bif my k n then bif Hc k l then bif qy l k then bif Z6u l k x then post (PX.ret,S.mk 20 (qX n::Ai k) (D3 z l)) else bif Zj k then post (PX.normal,S.mk 20 (qX n::r4::Zo k) (Nj z l::Sd x)) else False else False else False else False else post (PX.exit 0,S.mk 20 [qX n] (D3 z l)))=(aD [] [] 87 2 (qc3 z l n x k)) post:=by kernel_rfl
def s6 (ar:List Pl):P:=P.sl 0 0 (jR ar)
theorem XY (z:Bool) (l:List Pl) (n:Nat) (x:au) (post:P×List (Nat×En)->Prop):(∃(Nk:Bool) (ar:List Pl) (aI:au),S.mk 20 (qX n::r4::ZN) (Nj z l::Sd x)=S.mk 20 ((0,s6 ar)::r4::ZN) (Nj Nk ar::Sd aI)/\nW ar/\(∀(i:Int),i=eM ar aI->(0:Int)<=i->post (P.d (Zt i),D3 Nk ar))/\(eM ar aI=(-1:Int)->post (QN,D3 Nk ar)))=(aJ [] [(2,ae (aL 87 2) Sc)] 87 [.sl 0 0 n,.d (bB x)] (BA z l)) post:=by kernel_rfl
def Sg:bq:=fun ps R post=> ∃z l x,ps=[.sl 0 0 l.length,.d (bB x)]/\R=BA z l/\l.length<=1000000/\post (iD (eM l x),BA z l)
abbrev hsH (l:List au) (x:au) (k:Int):S:=⟨18,[(0,cO l),(3,.ref 0 0 0),(5,iD k)],bxI 0 x⟩
def qc4:S->K (PX×S):=fun s post=> ∃l x,s=hsH l x 0/\l.length<=1000000/\(x∈l->post (.ret,⟨18,[(0,cO l),(4,.d (.bool true))],[]⟩))/\(x∉l->post (.exit 0,⟨18,[(0,cO l)],[]⟩))
def Ld:List (Nat×P):=[(4,ZO)]
def Dv (l:List au):Nat×P:=(0,lJ l)
def Z6I (l:List au) (k:Int) (x:au):Bool:=I1 l k==Prod.fst x&&(I0 l k==h9 x&&true)&&(IZ l k==gP x&&true)
theorem qaU (l:List au) (x:au) (k:Int) (post:PX×S->Prop):(bif decide (k<vf l) then bif MX k l then bif wz l k then bif Z6I l k x then post (PX.ret,S.mk 18 (Dv l::Ld) []) else bif Zj k then post (PX.normal,S.mk 18 (Dv l::dF::Zo k) (Jo x)) else False else False else False else post (PX.exit 0,S.mk 18 [Dv l] []))=(aD [] [] 91 2 (hsH l x k)) post:=by kernel_rfl
def pS (ar:List au):Prop:=ia ar<=1000000
theorem qc5 (l:List au) (x:au) (post:P×List (Nat×En)->Prop):(∃(ar:List au) (aI:au),S.mk 18 (Dv l::dF::ZN) (Jo x)=S.mk 18 (Dv ar::dF::ZN) (Jo aI)/\pS ar/\(aI∈ar->ZP post)/\(¬aI∈ar->Z4 post))=(aJ [] [(2,ae (aL 91 2) qc4)] 91 [cO l,.d (bB x)] []) post:=by kernel_rfl
def Sh:bq:=fun ps R post=> ∃l x,ps=[cO l,.d (bB x)]/\R=[]/\l.length<=1000000/\post (.d (.bool (decide (x∈l))),[])
theorem Gl {α:Type} {f:α->Bool} {l:List α} {i:Nat} {x:α} (h:l[i]?=some x) (hf:f x=true) (hb: ∀y∈l.take i,f y=false):qx f l=(i:Int):=by
 have hi:i<l.length:=(zad.1 h).1
 have:l.findIdx? f=some i:=by
  rw[zbJ]
  refine⟨hi,by rw[(zad.1 h).2];exact hf,fun j hj=> ?_⟩
  rw[hb _ (zc5.2 ⟨j,by omega,rfl⟩)]
  simp
 unfold qx
 rw[this]
theorem Le {α:Type} {f:α->Bool} {l:List α} (h: ∀x∈l,f x=false):qx f l= -1:=by
 have:l.findIdx? f=none:=by
  rw[zbW]
  exact h
 unfold qx
 rw[this]
theorem rQ {α:Type} (f:α->Bool) (l:List α):(∃(i:Nat) (x:α),l[i]?=some x/\f x=true/\qx f l=(i:Int))\/(qx f l= -1/\ ∀x∈l,f x=false):=by
 cases h:l.findIdx? f with
 |some i=>
  obtain⟨hi,hf,_⟩:=zbJ.1 h
  exact .inl ⟨i,l[i],zae hi,hf,by unfold qx;rw[h]⟩
 |none=>exact .inr ⟨by unfold qx;rw[h],zbW.1 h⟩
theorem getD_some {α:Type} {l:List α} {k:Nat} (h:k<l.length) (d:α):l[k]?=some (l.getD k d):=by
 rw[zac,zae h]
 rfl
section
variable {X:XF}
theorem LD.scan {H:List (FuncId×bq)} {hk:List (Nat×(S->K (PX×S)))} {f id:Nat} {g:S->K (PX×S)} (hu:uniq PR f=true) (hc:b8 (qe f) (bx PR f id)=true) (hH:HD X H) (hl:Qt X f hk)
  {A α:Type} (hd:A->Int->S) (oB:A->List α) (d:α) (t:A->α->Bool) (C:A->Prop) (rt:A->Int->S) (ex:A->S)
  (hr: ∀a (k:Int) post,C a->(oB a).length<=1000000->0<=k->(k<(oB a).length->k.toNat<(oB a).length->(t a ((oB a).getD k.toNat d)=true->post (.ret,rt a k))->(t a ((oB a).getD k.toNat d)=false->post (.normal,hd a (k+1)))->aD H hk f id (hd a k) post))
  (hx: ∀a (k:Int) post,C a-> ¬k<(oB a).length->post (.exit 0,ex a)->aD H hk f id (hd a k) post)
  (hg: ∀s post,g s post-> ∃a,s=hd a 0/\C a/\(oB a).length<=1000000/\(∀i:Int,i=qx (t a) (oB a)->0<=i->post (.ret,rt a i))/\(qx (t a) (oB a)= -1->post (.exit 0,ex a))):LD X f id (ae (aL f id) g):=
 LD.par hu hc hH hl (A:=A) (B:=Int) hd (fun a k=>C a/\(oB a).length<=1000000/\0<=k/\k.toNat<=(oB a).length/\ ∀y∈(oB a).take k.toNat,t a y=false) (fun a k=>((oB a).length-k).toNat)
  (fun a x=>(∃i:Int,i=qx (t a) (oB a)/\0<=i/\x=(.ret,rt a i))\/(qx (t a) (oB a)= -1/\x=(.exit 0,ex a)))
  (by
   rintro a k ⟨h1,h2,h3,h4,h5⟩
   by_cases hk:k<(oB a).length
   ·have dO:k.toNat<(oB a).length:=by omega
    refine hr a k _ h1 h2 h3 hk dO (fun ht=> .inl ⟨k,?_,h3,rfl⟩) fun ht=>⟨((oB a).length-(k+1)).toNat,by omega,k+1,rfl,⟨h1,h2,by omega,by omega,fun y hy=> ?_⟩,rfl⟩
    ·rw[Gl (getD_some dO d) ht h5]
     omega
    ·rw[show(k+1).toNat=k.toNat+1 by omega,zb6,getD_some dO d] at hy
     rcases zaG.1 hy with hy |hy
     ·exact h5 y hy
     ·simp at hy
      rw[hy]
      simpa using ht
   ·refine hx a k _ h1 hk (.inr ⟨Le fun y hy=>h5 y ?_,rfl⟩)
    rw[zai (by omega)]
    exact hy)
  (by
   intro s post h
   obtain⟨a,rfl,h1,h2,h3,h4⟩:=hg s post h
   refine⟨a,0,rfl,⟨h1,h2,by simp,by simp,by simp⟩,?_⟩
   rintro x (⟨i,h5,h6,rfl⟩| ⟨h5,rfl⟩)
   ·exact h3 i h5 h6
   ·exact h4 h5)
theorem qc6 {l:List It} {i:Nat} (h:i<l.length) (d:It):D.nth (l.map fw) i=fw (l.getD i d):=by
 rw[ay fw l i h]
 simp[zac,h]
def it0:It:=((0,0,0),[],false,false)
theorem Lf {α:Type} (f:α->Bool) (l:List α):decide (qx f l>=0)=l.any f:=by
 rcases rQ f l with⟨i,x,h1,h2,h3⟩| ⟨h1,h2⟩
 ·rw[h3,zbx.2 ⟨x,zaC h1,h2⟩]
  simp
 ·rw[h1]
  cases h:l.any f with
  |false=>rfl
  |true=>
   obtain⟨x,hx,hf⟩:=zbx.1 h
   rw[h2 x hx] at hf
   cases hf
theorem s7 (x y:au):(x.1==y.1&&(x.2.1==y.2.1&&true)&&(x.2.2==y.2.2&&true))=(x==y):=by
 rw[zaE]
 obtain⟨a,b,c⟩:=x
 obtain⟨d,e,f⟩:=y
 simp[and_assoc]
theorem XZ:LD X 87 2 (ae (aL 87 2) qc1):=
 LD.scan (H:=[]) (hk:=[]) (by kernel_rfl) (by kernel_rfl) .nil .nil
  (A:=List Pl×au) (fun a k=>qc0 a.1 a.2 k) (·.1) sP (fun a p=>p.1==a.2) (fun _=>True)
  (fun a i=>⟨20,[(0,eG a.1),(4,iD i)],[]⟩) (fun a=>⟨20,[(0,eG a.1)],[]⟩)
  (by
   rintro⟨l,x⟩ k post _ hm h0 hk dO ht hf
   dsimp only at*
   (rw[<-qaT];delta gP gO h9 gB gC oT vW Jo Zn Zo bT dF Za Z9 Zj Zt nf Ai im lB tD Zg oh Z6u qy r5 Gk Z6q)
   simp only[zaa]
   rw[iS dO]
   refine ju (k8 hk) (bs ⟨h0,hk⟩ (ao (hY _) (ax (fun h=>ht ?_) fun h=>ao (pG (by omega) (by omega)) (hf ?_))))
   ·rw[<-s7];exact h
   ·rw[<-s7];exact h)
  (by
   rintro⟨l,p⟩ k post _ hk hp
   dsimp only at*
   (rw[<-qaT];delta gP gO h9 gB gC oT vW Jo Zn Zo bT dF Za Z9 Zj Zt nf Ai im lB tD Zg oh Z6u qy r5 Gk Z6q)
   simp only[zaa]
   exact eA (k9 hk) hp)
  (by
   rintro s post ⟨l,p,rfl,hm,h1,h2⟩
   exact⟨(l,p),rfl,trivial,hm,h1,h2⟩)
theorem qaV:FD X 87 Sb:=FD.mk (H:=[]) (hk:=[(2,ae (aL 87 2) qc1)]) (by kernel_rfl) .nil (.cons XZ .nil) (by
 intro ps R post hh
 obtain⟨l,x,rfl,rfl,hm,hp⟩:=hh
 (rw[<-qc2];delta QN oN Zt jR nW gP gO h9 gB gC oT vW Jo Z7 ZN bT dF im lB tD)
 refine⟨l,x,rfl,hm,fun i hi h0=> ?_,fun h=> ?_⟩
 ·rw[hi];exact hp
 ·rw[h] at hp;exact hp)
theorem Si:LD X 87 2 (ae (aL 87 2) Sc):=
 LD.scan (H:=[]) (hk:=[]) (by kernel_rfl) (by kernel_rfl) .nil .nil
  (A:=List Pl×au×Bool) (fun a k=>qc3 a.2.2 a.1 a.1.length a.2.1 k) (·.1) sP (fun a p=>p.1==a.2.1) (fun _=>True)
  (fun a i=>⟨20,[(0,.sl 0 0 a.1.length),(4,iD i)],BA a.2.2 a.1⟩) (fun a=>⟨20,[(0,.sl 0 0 a.1.length)],BA a.2.2 a.1⟩)
  (by
   rintro⟨l,x,z⟩ k post _ hm h0 hk dO ht hf
   dsimp only at*
   (rw[<-Sf];delta gP gO h9 gB gC oT Sd im Nj Zn Zo iC r4 Za Z9 Zj D3 Zt nf Ai ZB qX Zg oh Z6u qy r5 Hc my Se)
   rw[iS dO]
   refine ju (k8 hk) (bs ⟨h0,hk⟩ (ao (k8 (by rw[zaa];exact dO)) (ao (hY _) (ax (fun h=>ht ?_) fun h=>ao (pG (by omega) (by omega)) (hf ?_)))))
   ·rw[<-s7];exact h
   ·rw[<-s7];exact h)
  (by
   rintro⟨l,p,z⟩ k post _ hk hp
   dsimp only at*
   (rw[<-Sf];delta gP gO h9 gB gC oT Sd im Nj Zn Zo iC r4 Za Z9 Zj D3 Zt nf Ai ZB qX Zg oh Z6u qy r5 Hc my Se)
   exact eA (k9 hk) hp)
  (by
   rintro s post ⟨z,l,p,rfl,hm,h1,h2⟩
   exact⟨(l,p,z),rfl,trivial,hm,h1,h2⟩)
theorem Sj:FD X 87 Sg:=FD.mk (H:=[]) (hk:=[(2,ae (aL 87 2) Sc)]) (by kernel_rfl) .nil (.cons Si .nil) (by
 intro ps R post hh
 obtain⟨z,l,x,rfl,rfl,hm,hp⟩:=hh
 (rw[<-XY];delta QN im Nj D3 Zt jR nW s6 gP gO h9 gB gC oT Sd Z7 ZN iC r4 ZB qX)
 refine⟨z,l,x,rfl,hm,fun i hi h0=> ?_,fun h=> ?_⟩
 ·rw[hi];exact hp
 ·rw[h] at hp;exact hp)
theorem Lg {α:Type} {f:α->Bool} {l:List α}:0<=qx f l↔ ∃x∈l,f x=true:=by
 rcases rQ f l with⟨i,x,h1,h2,h3⟩| ⟨h1,h2⟩
 ·rw[h3]
  exact⟨fun _=>⟨x,zaC h1,h2⟩,fun _=>by omega⟩
 ·rw[h1]
  exact⟨fun h=>by omega,fun⟨x,hx,hf⟩=>by rw[h2 x hx] at hf;cases hf⟩
theorem X0:LD X 91 2 (ae (aL 91 2) qc4):=
 LD.scan (H:=[]) (hk:=[]) (by kernel_rfl) (by kernel_rfl) .nil .nil
  (A:=List au×au) (fun a k=>hsH a.1 a.2 k) (·.1) (0,0,0) (fun a p=>p==a.2) (fun _=>True)
  (fun a i=>⟨18,[(0,cO a.1),(4,.d (.bool true))],[]⟩) (fun a=>⟨18,[(0,cO a.1)],[]⟩)
  (by
   rintro⟨l,x⟩ k post _ hm h0 hk dO ht hf
   dsimp only at*
   (rw[<-qaU];delta gP gO h9 gB gC oT vW Jo Zn Zo bT dF Za Z9 Zj ZO Ld gq lJ Dv Zg IZ I0 I1 Z6I wz pL vf MX)
   simp only[zaa]
   rw[qcr dO]
   refine ju (k8 hk) (bs ⟨h0,hk⟩ (ao (lF _) (ax (fun h=>ht ?_) fun h=>ao (pG (by omega) (by omega)) (hf ?_))))
   ·rw[<-s7];exact h
   ·rw[<-s7];exact h)
  (by
   rintro⟨l,p⟩ k post _ hk hp
   dsimp only at*
   (rw[<-qaU];delta gP gO h9 gB gC oT vW Jo Zn Zo bT dF Za Z9 Zj ZO Ld gq lJ Dv Zg IZ I0 I1 Z6I wz pL vf MX)
   simp only[zaa]
   exact eA (k9 hk) hp)
  (by
   rintro s post ⟨l,x,rfl,hm,h1,h2⟩
   refine⟨(l,x),rfl,trivial,hm,fun i hi h0=>h1 ?_,fun h=>h2 fun hx=> ?_⟩
   ·rw[hi] at h0
    obtain⟨y,hy,he⟩:=Lg.1 h0
    have:y=x:=by simpa using he
    exact this▸hy
   ·have:0<=qx (fun p=>p==x) l:=Lg.2 ⟨x,hx,by simp⟩
    dsimp only at h
    omega)
theorem qaW:FD X 91 Sh:=FD.mk (H:=[]) (hk:=[(2,ae (aL 91 2) qc4)]) (by kernel_rfl) .nil (.cons X0 .nil) (by
 intro ps R post hh
 obtain⟨l,x,rfl,rfl,hm,hp⟩:=hh
 (rw[<-qc5];delta Z3 Z4 ZO ZP ia pS gP gO h9 gB gC oT vW Jo Z7 ZN bT dF gq lJ Dv)
 exact⟨l,x,rfl,hm,fun h=>yh hp (by simp[h]),fun h=>yh hp (by simp[h])⟩)
end
def zr (l:List Pl) (ar:List Pl) (aI:au):D:=D.nth (im l) (Int.toNat (eM ar aI))
def Z6U (l:List Pl) (ar:List Pl) (aI:au):D:=D.int .i64 (D.ah (D.aq (zr l ar aI) 5))
def Z6T (l:List Pl) (ar:List Pl) (aI:au):D:=D.int .i64 (D.ah (D.aq (zr l ar aI) 4))
def Z6S (l:List Pl) (ar:List Pl) (aI:au):D:=D.int .i64 (D.ah (D.aq (zr l ar aI) 3))
def Z6V (l:List Pl) (ar:List Pl) (aI:au):Nat×En:=(0,En.mk 0 none (Obj.box (50:TypeId) [P.d (Z6S l ar aI),P.d (Z6T l ar aI),P.d (Z6U l ar aI)]))
def Jp:Nat×P:=(5,iC)
def Al:Nat×P:=(4,bT)
def Z6O (ar:List Pl) (aI:au) (l:List Pl):Bool:=decide ((0:Int)<=eM ar aI/\eM ar aI<(↑(r5 l):Int))
def Z6N (ar:List Pl) (aI:au):Bool:=decide (eM ar aI<(0:Int))
def Z6M (x:au) (y:au):Bool:=Prod.fst x==Prod.fst y&&(h9 x==h9 y&&true)&&(gP x==gP y&&true)
abbrev wiL (z:Bool) (l:List Pl) (n:Nat) (x y:au) (k:Int):S:=⟨28,[(0,.sl 0 0 n),(4,.ref 1 0 0),(5,.ref 2 0 0),(7,iD k)],BA z l++bxI 1 x++bxI 2 y⟩
def qc7:S->K (PX×S):=fun s post=> ∃z l x y,s=wiL z l l.length x y 0/\l.length<=1000000/\(∀b,b=within l x y->post (.ret,⟨28,[(0,.sl 0 0 l.length),(6,.d (.bool b))],BA z l⟩))/\(within l x y=true->post (.exit 0,⟨28,[(0,.sl 0 0 l.length)],BA z l⟩))
def X1 (y:au):List (Nat×En):=[(2,oT y)]
def r6:P:=P.ref 2 0 0
def Z6Y:Nat×P:=(4,iC)
def D4 (ar:List Pl) (aI:au):D:=D.nth (im ar) (Int.toNat (eM ar aI))
def Z6W (ar:List Pl) (aI:au):Bool:=decide (Int.toNat (eM ar aI)<r5 ar)
theorem qf4 (z:Bool) (l:List Pl) (n:Nat) (x y:au) (k:Int) (post:PX×S->Prop):(bif decide (k<=(↑n:Int)) then bif Z6M x y then post (PX.ret,S.mk 28 [qX n,(6,ZO)] (D3 z l)) else∃(Nk:Bool) (ar:List Pl) (aI:au),ZB n::iV x=s6 ar::iV aI/\D3 z l=D3 Nk ar/\nW ar/\bif Z6N ar aI then post (PX.ret,S.mk 28 (qX n::Z4p) (D3 Nk ar)) else bif decide ((0:Int)<=eM ar aI/\eM ar aI<(↑n:Int)) then bif Z6W ar aI then bif cC PR (104:TypeId) (D4 ar aI) then bif Zj k then post (PX.normal,S.mk 28 (qX n::Z6Y::(5,r6)::ZL k) (Nj Nk ar::(1,En.mk 0 none (Obj.box (50:TypeId) [P.d (D.int .i64 (D.ah (D.aq (D4 ar aI) 3))),P.d (D.int .i64 (D.ah (D.aq (D4 ar aI) 4))),P.d (D.int .i64 (D.ah (D.aq (D4 ar aI) 5)))]))::X1 y)) else False else False else False else False else post (PX.exit 0,S.mk 28 [qX n] (D3 z l)))=(aD [(87,Sg)] [] 86 2 (wiL z l n x y k)) post:=by kernel_rfl
theorem qc8 (z:Bool) (l:List Pl) (n:Nat) (x y:au) (post:P×List (Nat×En)->Prop):(∃(Nk:Bool) (ar:List Pl) (aI:au) (C2:au),S.mk 28 (qX n::Z6Y::(5,r6)::rB) (Nj z l::(1,oT x)::X1 y)=S.mk 28 ((0,s6 ar)::Z6Y::(5,r6)::rB) (Nj Nk ar::(1,oT aI)::X1 C2)/\nW ar/\(∀(b:Bool),b=within ar aI C2->post (gh b,D3 Nk ar))/\(within ar aI C2=true->post (ZO,D3 Nk ar)))=(aJ [] [(2,ae (aL 86 2) qc7)] 86 [.sl 0 0 n,.d (bB x),.d (bB y)] (BA z l)) post:=by kernel_rfl
def qc9:bq:=fun ps R post=> ∃z l x y,ps=[.sl 0 0 l.length,.d (bB x),.d (bB y)]/\R=BA z l/\l.length<=1000000/\ ∀b,b=within l x y->post (.d (.bool b),BA z l)
abbrev qda (l:List Pl) (x:au) (k:Int):S:=⟨39,[(0,eG l),(3,.ref 0 0 0),(5,iD k)],bxI 0 x⟩
def gRo:S->K (PX×S):=fun s post=> ∃l x,s=qda l x 0/\l.length<=1000000/\(∀b,b=lg l x->post (.ret,⟨39,[(4,.d (.bool b))],[]⟩))/\(lg l x=false->post (.exit 0,⟨39,[],[]⟩))
def Z71 (post:PX×S->Prop):Prop:=post (PX.ret,S.mk 39 Zi [])
theorem qf5 (l:List Pl) (x:au) (k:Int) (post:PX×S->Prop):(bif decide (k<=(↑(r5 l):Int)) then∃(ar:List Pl) (aI:au),lB l::iV x=lB ar::iV aI/\Zx/\nW ar/\bif Z6N ar aI then Z71 post else bif Z6O ar aI l then bif cC PR (104:TypeId) (zr l ar aI) then bif D.ah (D.aq (zr l ar aI) 3)==(0:Int)&&(D.ah (D.aq (zr l ar aI) 4)==(0:Int)&&true)&&(D.ah (D.aq (zr l ar aI) 5)==(0:Int)&&true) then post (PX.ret,S.mk 39 Ld []) else∃(iF:List Pl) (x:au),[lB l,P.d (D.agg [Z6S l ar aI,Z6T l ar aI,Z6U l ar aI])]=lB iF::iV x/\Zx/\nW iF/\bif Z6N iF x then Z71 post else bif Z6O iF x l then bif cC PR (104:TypeId) (zr l iF x) then bif !D.e7 (D.aq (zr l iF x) 7) then Z71 post else bif Zj k then post (PX.normal,S.mk 39 (tD l::dF::Zo k) [Z6V l ar aI]) else False else False else False else False else False else post (PX.exit 0,S.mk 39 [] []))=(aD [(87,Sb)] [] 119 2 (qda l x k)) post:=by kernel_rfl
theorem qf6 (l:List Pl) (x:au) (post:P×List (Nat×En)->Prop):(∃(ar:List Pl) (aI:au),S.mk 39 (tD l::dF::ZN) (Jo x)=S.mk 39 (tD ar::dF::ZN) (Jo aI)/\nW ar/\(∀(b:Bool),b=lg ar aI->post (gh b,[]))/\(lg ar aI=false->Z4 post))=(aJ [] [(2,ae (aL 119 2) gRo)] 119 [eG l,.d (bB x)] []) post:=by kernel_rfl
def qdb:bq:=fun ps R post=> ∃l x,ps=[eG l,.d (bB x)]/\R=[]/\l.length<=1000000/\ ∀b,b=lg l x->post (.d (.bool b),[])
def Gm:bq:=fun ps R post=> ∃l x,ps=[.sl 0 0 l.length,.d (bB x)]/\R=BA false l/\l.length<=1000000/\post (iD (eM l x),BA false l)
abbrev riH (l o:List Pl) (n:Nat) (k:Int):S:=⟨43,[(0,eG l),(3,.sl 0 0 n),(4,iD k)],[(0,⟨0,none,.arr 104 false (o.map bI)⟩)]⟩
def gRi:S->K (PX×S):=fun s post=> ∃l,s=riH l [] 0 0/\l.length<=1000000/\post (.exit 0,⟨43,[(3,.sl 0 0 (oO l).length)],[(0,⟨0,none,.arr 104 false ((oO l).map bI)⟩)]⟩)
def Ow (ar:List Pl):En:=En.mk 0 none (Obj.arr (104:TypeId) false (im ar))
def He (ar:List Pl):List (Nat×En):=[(0,Ow ar)]
def Z7c (k:Int) (post:PX×S->Prop) (l:List Pl) (n:Nat) (ar:List Pl):Prop:=bif Zj k then post (PX.normal,S.mk 43 (tD l::(3,ZB n)::vi k) (He ar)) else False
def Nl (l:List Pl) (k:Int):D:=D.int .i64 (D.ah (D.aq (oh l k) 2))
def Nn (l:List Pl) (k:Int):D:=D.int .i64 (D.ah (D.aq (oh l k) 1))
def Np (l:List Pl) (k:Int):D:=D.int .i64 (D.ah (D.aq (oh l k) 0))
def X2 (l:List Pl) (k:Int):List D:=[Np l k,Nn l k,Nl l k,D.int .i64 (D.ah (D.aq (oh l k) 3)),D.int .i64 (D.ah (D.aq (oh l k) 4)),D.int .i64 (D.ah (D.aq (oh l k) 5)),D.str (D.eI (D.aq (oh l k) 6)),D.bool (D.e7 (D.aq (oh l k) 7))]
def Z79 (n:Nat) (ar:List Pl) (l:List Pl) (k:Int):En:=En.mk 0 none (Obj.arr (104:TypeId) false (List.take n (im ar)++[D.agg (X2 l k)]))
def Z78 (n:Nat) (l:List Pl) (k:Int):Nat:=n+List.length [D.agg (X2 l k)]
def X3 (o:List Pl):List (Nat×En):=[(0,En.mk 0 (some 0) (Obj.arr (104:TypeId) false (im o)))]
def Jq (l:List Pl) (k:Int):P:=P.d (D.agg [Np l k,Nn l k,Nl l k])
theorem qij (l o:List Pl) (n:Nat) (k:Int) (post:PX×S->Prop):(bif Z6q k l then bif Gk k l then bif qy l k then∃(t:Int) (r:Int) (i:Int),[Jq l k]=GY t r i/\Zx/\bif cp t r i then bif Gk k l then bif qy l k then∃(s:List UInt8),[P.d (D.str (D.eI (D.aq (oh l k) 6)))]=vb s/\Zx/\bif dH s then bif Gk k l then bif qy l k then∃(ar:List Pl) (x:au),[ZB n,Jq l k]=s6 ar::iV x/\X3 o=X3 ar/\nW ar/\bif Z6N ar x then bif Gk k l then bif qy l k then bif Nat.ble n (r5 ar)&&aN (Z78 n l k) 72 then bif Zj k then post (PX.normal,S.mk 43 (tD l::(3,P.sl 0 0 (Z78 n l k))::vi k) [(0,Z79 n ar l k)]) else False else False else False else False else Z7c k post l n ar else False else False else Z7c k post l n o else False else False else Z7c k post l n o else False else False else post (PX.exit 0,S.mk 43 [(3,ZB n)] (He o)))=(aD [(151,mL),(138,Bg),(87,Gm)] [] 118 3 (riH l o n k)) post:=by kernel_rfl
def Z7f (ar:List Pl):Nat×En:=(0,En.mk 0 none (Obj.arr (104:TypeId) false (List.map bI (oO ar))))
def zs:En:=En.mk 0 none (Obj.arr (104:TypeId) false [])
def Z7e (l:List Pl):S:=S.mk 43 (tD l::RH) [(0,zs)]
theorem qf7 (l:List Pl) (post:P×List (Nat×En)->Prop):(∃(ar:List Pl),Z7e l=Z7e ar/\nW ar/\post (P.sl 0 0 (List.length (oO ar)),[Z7f ar]))=(aJ [] [(3,ae (aL 118 3) gRi)] 118 [eG l] []) post:=by kernel_rfl
def hRi:bq:=fun ps R post=> ∃l,ps=[eG l]/\R=[]/\l.length<=1000000/\post (.sl 0 0 (oO l).length,[(0,⟨0,none,.arr 104 false ((oO l).map bI)⟩)])
abbrev bxP (n:Nat) (p:Pl):List (Nat×En):=[(n,⟨0,none,.box 104 [.d (.int .i64 p.1.1),.d (.int .i64 p.1.2.1),.d (.int .i64 p.1.2.2),.d (.int .i64 p.2.1.1),.d (.int .i64 p.2.1.2.1),.d (.int .i64 p.2.1.2.2),.d (.str p.2.2.1),.d (.bool p.2.2.2)]⟩)]
abbrev naH (l:List Pl) (p:Pl) (k:Int):S:=⟨54,[(0,eG l),(3,.ref 0 0 0),(5,iD k)],bxP 0 p⟩
def Ox (p q:Pl):Bool:=decide (q.2.1=p.2.1)&&(q.2.2.1==p.2.2.1)&&mh q.1 p.1
def gNa:S->K (PX×S):=fun s post=> ∃l p,s=naH l p 0/\l.length<=1000000/\(l.any (Ox p)=true->post (.ret,⟨54,[(3,.ref 0 0 0),(4,sD (lb p.2.2.1 p.1.1 p.1.2.1 p.1.2.2).1)],bxP 0 p⟩))/\(l.any (Ox p)=false->post (.exit 0,⟨54,[(3,.ref 0 0 0)],bxP 0 p⟩))
def Hf:List (Nat×P):=[dF]
def Oy (p:Pl):List UInt8:=Prod.fst (Prod.snd (Prod.snd p))
def Sk (p:Pl):Int:=Prod.snd (Prod.snd (Prod.fst (Prod.snd p)))
def Sl (p:Pl):Int:=Prod.fst (Prod.snd (Prod.fst (Prod.snd p)))
def Sm (p:Pl):Int:=Prod.fst (Prod.fst (Prod.snd p))
def X4 (p:Pl):D:=D.int .i64 (Prod.snd (Prod.snd (Prod.fst p)))
def X5 (p:Pl):D:=D.int .i64 (Prod.fst (Prod.snd (Prod.fst p)))
def X6 (p:Pl):D:=D.int .i64 (Prod.fst (Prod.fst p))
def Sn (p:Pl):List (Nat×En):=[(0,En.mk 0 none (Obj.box (104:TypeId) [P.d (X6 p),P.d (X5 p),P.d (X4 p),P.d (D.int .i64 (Sm p)),P.d (D.int .i64 (Sl p)),P.d (D.int .i64 (Sk p)),P.d (D.str (Oy p)),P.d (D.bool (Prod.snd (Prod.snd (Prod.snd p))))]))]
def Z7r (k:Int) (post:PX×S->Prop) (l:List Pl) (p:Pl):Prop:=bif Zj k then post (PX.normal,S.mk 54 (tD l::dF::Zo k) (Sn p)) else False
def Sp (t:Int) (r:Int) (i:Int) (t':Int) (r':Int) (i':Int):Bool:=decide (yg t r i t' r' i'<(0:Int))
def Sq (t:Int) (r:Int) (i:Int) (t':Int) (r':Int) (i':Int):List P:=P.d (D.agg (Zt t::Zt r::ZE i))::GY t' r' i'
def Z7n (p:Pl):List P:=[P.d (D.agg [X6 p,X5 p,X4 p])]
theorem qf8 (l:List Pl) (p:Pl) (k:Int) (post:PX×S->Prop):(bif Z6q k l then bif Gk k l then bif qy l k then bif D.ah (D.aq (oh l k) 3)==Sm p&&(D.ah (D.aq (oh l k) 4)==Sl p&&true)&&(D.ah (D.aq (oh l k) 5)==Sk p&&true) then bif Gk k l then bif qy l k then bif D.eI (D.aq (oh l k) 6)==Oy p then bif Gk k l then bif qy l k then∃(t:Int) (r:Int) (i:Int) (t':Int) (r':Int) (i':Int),Jq l k::Z7n p=Sq t r i t' r' i'/\Zx/\bif Sp t r i t' r' i' then∃(s:List UInt8) (t:Int) (r:Int) (i:Int),P.d (D.str (Oy p))::Z7n p=P.d (D.str s)::GY t r i/\Zx/\post (PX.ret,S.mk 54 [dF,(4,P.d (D.str (Prod.fst (lb s t r i))))] (Sn p)) else Z7r k post l p else False else False else Z7r k post l p else False else False else Z7r k post l p else False else False else post (PX.exit 0,S.mk 54 Hf (Sn p)))=(aD [(88,iR),(152,IA)] [] 120 2 (naH l p k)) post:=by kernel_rfl
theorem qf9 (l:List Pl) (p:Pl) (post:P×List (Nat×En)->Prop):(∃(ar:List Pl) (l0:Pl),S.mk 54 (tD l::dF::ZN) (Sn p)=S.mk 54 (tD ar::dF::ZN) (Sn l0)/\nW ar/\(List.any ar (Ox l0)=true->post (P.d (D.str (Prod.fst (lb (Oy l0) (Prod.fst (Prod.fst l0)) (Prod.fst (Prod.snd (Prod.fst l0))) (Prod.snd (Prod.snd (Prod.fst l0)))))),[]))/\(List.any ar (Ox l0)=false->post (P.d (D.str (Oy l0)),[])))=(aJ [] [(2,ae (aL 120 2) gNa)] 120 [eG l,.d (bI p)] []) post:=by kernel_rfl
def hNa:bq:=fun ps R post=> ∃l p,ps=[eG l,.d (bI p)]/\R=[]/\l.length<=1000000/\ ∀s,s=Nh l p->post (sD s,[])
abbrev paH (l:List Pl) (p:Pl) (s:List UInt8):S:=⟨28,[(0,eG l),(3,.ref 0 0 0),(5,sD s)],bxP 0 p⟩
inductive Sr (T:List Pl) (V:List au) (x:au) (p:Pl):Prop
 |mk (h1:marked T V x=true) (h2:eb T x=some p)
def gPa:S->K (PX×S):=fun s post=> ∃T V x p w,s=paH (bb T V) p ([47]++Nh (bb T V) p)/\(T.length<=1000/\Rt T/\Sr T V x p/\Up T x w)/\post (.exit 0,⟨28,[(5,sD (pI (w.reverse.map (Lb T V))))],[]⟩)
def Z7u (iA:List UInt8):List UInt8:=[(47:UInt8)]++iA
def Z7t (p:Pl):List P:=[P.d (D.agg [X6 p,X5 p,X4 p,D.int .i64 (Sm p),D.int .i64 (Sl p),D.int .i64 (Sk p),D.str (Oy p),D.bool (Prod.snd (Prod.snd (Prod.snd p)))])]
theorem qik (l:List Pl) (p:Pl) (s:List UInt8) (post:PX×S->Prop):(bif !(Sm p==(0:Int)&&(Sl p==(0:Int)&&true)&&(Sk p==(0:Int)&&true)) then∃(ar:List Pl) (x:au),[lB l,P.d (D.agg [D.int .i64 (Sm p),D.int .i64 (Sl p),D.int .i64 (Sk p)])]=lB ar::iV x/\Zx/\nW ar/\bif Z6O ar x l then bif cC PR (104:TypeId) (zr l ar x) then∃(iF:List Pl) (p:Pl),[lB l,P.d (D.agg [D.int .i64 (D.ah (D.aq (zr l ar x) 0)),D.int .i64 (D.ah (D.aq (zr l ar x) 1)),D.int .i64 (D.ah (D.aq (zr l ar x) 2)),Z6S l ar x,Z6T l ar x,Z6U l ar x,D.str (D.eI (D.aq (zr l ar x) 6)),D.bool (D.e7 (D.aq (zr l ar x) 7))])]=lB iF::Z7t p/\Zx/\nW iF/\ ∀(iA:List UInt8),iA=Nh iF p->bif decide (1+rC iA<=Zy) then bif decide (List.length (Z7u iA)+rC s<=Zy) then post (PX.normal,S.mk 28 [tD l,dF,(5,P.d (D.str (Z7u iA++s)))] [(0,En.mk 0 none (Obj.box (104:TypeId) [P.d (D.int .i64 (D.ah (D.aq (zr l ar x) 0))),P.d (D.int .i64 (D.ah (D.aq (zr l ar x) 1))),P.d (D.int .i64 (D.ah (D.aq (zr l ar x) 2))),P.d (Z6S l ar x),P.d (Z6T l ar x),P.d (Z6U l ar x),P.d (D.str (D.eI (D.aq (zr l ar x) 6))),P.d (D.bool (D.e7 (D.aq (zr l ar x) 7)))]))]) else False else False else False else False else post (PX.exit 0,S.mk 28 [(5,P.d (D.str s))] []))=(aD [(120,hNa),(87,Sb)] [] 90 2 (paH l p s)) post:=by kernel_rfl
theorem qga (l:List Pl) (p:Pl) (post:P×List (Nat×En)->Prop):(∃(ar:List Pl) (l0:Pl),lB l::Z7t p=lB ar::Z7t l0/\Zx/\nW ar/\ ∀(s:List UInt8),s=Nh ar l0->bif decide (1+rC s<=Zy) then∃(T:List Pl) (V:List au) (x:au) (p_2:Pl) (w:List au),S.mk 28 [tD l,dF,(5,P.d (D.str (Z7u s)))] (Sn p)=S.mk 28 [(0,P.d (D.sl 8 (List.map bI (bb T V)))),dF,(5,P.d (D.str ([(47:UInt8)]++Nh (bb T V) p_2)))] (Sn p_2)/\(jR T<=1000/\Rt T/\Sr T V x p_2/\Up T x w)/\post (P.d (D.str (pI (List.map (Lb T V) (List.reverse w)))),[]) else False)=(aJ [(120,hNa)] [(2,ae (aL 90 2) gPa)] 90 [eG l,.d (bI p)] []) post:=by kernel_rfl
def hPa:bq:=fun ps R post=> ∃T V p,ps=[eG (bb T V),.d (bI p)]/\R=[]/\(T.length<=1000/\Rt T/\p∈bb T V)/\post (sD (Lc T V p.1),[])
theorem qk {l:List Pl} {x:au} (h:eb l x=none):eM l x= -1:=by
 refine Le fun p hp=> ?_
 unfold eb at h
 simpa using zck.1 h p hp
theorem mU {l:List Pl} {x:au} {p:Pl} (h:eb l x=some p): ∃i:Nat,eM l x=(i:Int)/\i<l.length/\l.getD i sP=p:=by
 unfold eb at h
 obtain⟨h1,i,hi,h2,h3⟩:=List.find?_eq_some_iff_getElem.1 h
 refine⟨i,Gl (x:=p) (by rw[zae hi,h2]) h1 fun y hy=> ?_,hi,?_⟩
 ·obtain⟨j,hj,rfl⟩:=zaU hy
  rw[List.getElem_take]
  rw[zay] at hj
  simpa using h3 j (by omega)
 ·rw[zac,zae hi]
  exact h2
section
variable {X:XF}
theorem qdc {x y:au} (h:(x.1==y.1&&(x.2.1==y.2.1&&true)&&(x.2.2==y.2.2&&true))=true):x=y:=by
 rw[s7] at h
 simpa using h
theorem qdd {x y:au} (h:(x.1==y.1&&(x.2.1==y.2.1&&true)&&(x.2.2==y.2.2&&true))=false):x≠y:=by
 rw[s7] at h
 simpa using h
theorem X7:LD X 86 2 (ae (aL 86 2) qc7):=LD.par (H:=[(87,Sg)]) (hk:=[]) (by kernel_rfl) (by kernel_rfl) (.cons Sj .nil) .nil
 (A:=List Pl×au×au×Bool) (B:=au×Int) (fun a b=>wiL a.2.2.2 a.1 a.1.length b.1 a.2.2.1 b.2)
 (fun a b=>a.1.length<=1000000/\0<=b.2/\b.2<=a.1.length+1/\lU a.1 (a.1.length+1-b.2.toNat) b.1 a.2.2.1=within a.1 a.2.1 a.2.2.1)
 (fun a b=>a.1.length+1-b.2.toNat)
 (fun a r=>(r=(.ret,⟨28,[(0,.sl 0 0 a.1.length),(6,.d (.bool (within a.1 a.2.1 a.2.2.1)))],BA a.2.2.2 a.1⟩))\/(within a.1 a.2.1 a.2.2.1=true/\r=(.exit 0,⟨28,[(0,.sl 0 0 a.1.length)],BA a.2.2.2 a.1⟩)))
 (by
  rintro⟨l,x0,y,z⟩ ⟨x,k⟩ ⟨hm,h0,hk,hw⟩
  dsimp only at*
  (rw[<-qf4];delta gP gO h9 gB gC oT X1 im Nj Zn ZL r6 iC Z6Y Za Z9 Zj D4 r5 Z6W Z3 Z4p Z6N jR nW s6 uf iV ZB D3 ZO qX Z6M)
  refine bf (fun h=> ?_) fun h=> ?_
  ·obtain⟨n,hn⟩: ∃n,l.length+1-k.toNat=n+1:=⟨l.length-k.toNat,by omega⟩
   rw[hn] at hw
   simp only[lU] at hw
   refine ax (fun he=> ?_) fun he=>⟨z,l,x,rfl,rfl,hm,?_⟩
   ·rw[zao (qdc he)] at hw
    left
    rw[<-hw]
   ·rw[zam (qdd he)] at hw
    cases hp:eb l x with
    |none=>
     rw[hp] at hw
     rw[qk hp]
     refine ju (k8 (by decide)) (.inl ?_)
     simp only at hw
     rw[<-hw]
    |some p=>
     rw[hp] at hw
     obtain⟨i,hi,bN,hip⟩:=mU hp
     rw[hi]
     simp only[zb5]
     rw[iS bN,hip]
     refine eA (k9 (by omega)) (bs ⟨by omega,by omega⟩ (ao (k8 (by rw[zaa];exact bN)) (ao (hY p) (ao (pG (by omega) (by omega)) ⟨l.length+1-(k+1).toNat,by omega,(p.2.1,k+1),rfl,⟨hm,by simp only;omega,by simp only;omega,?_⟩,rfl⟩))))
     simp only
     rw[show l.length+1-(k+1).toNat=n by omega]
     exact hw
  ·have:l.length+1-k.toNat=0:=by omega
   rw[this] at hw
   exact .inr ⟨hw.symm,rfl⟩)
 (by
  rintro s post ⟨z,l,x,y,rfl,hm,h1,h2⟩
  refine⟨(l,x,y,z),(x,0),rfl,⟨hm,by simp,by simp only;omega,rfl⟩,?_⟩
  rintro r (rfl | ⟨h3,rfl⟩)
  ·exact h1 _ rfl
  ·exact h2 h3)
theorem qaX:FD X 86 qc9:=FD.mk (H:=[]) (hk:=[(2,ae (aL 86 2) qc7)]) (by kernel_rfl) .nil (.cons X7 .nil) (by
 intro ps R post hh
 obtain⟨z,l,x,y,rfl,rfl,hm,hp⟩:=hh
 (rw[<-qc8];delta ZO im Nj D3 gh jR nW s6 gP gO h9 gB gC oT X1 Z7 rB r6 iC Z6Y ZB qX)
 exact⟨z,l,x,y,rfl,hm,fun b hb=>hp b hb,fun h=>hp true h.symm⟩)
theorem qde:LD X 119 2 (ae (aL 119 2) gRo):=LD.par (H:=[(87,Sb)]) (hk:=[]) (by kernel_rfl) (by kernel_rfl) (.cons qaV .nil) .nil
 (A:=List Pl×au) (B:=au×Int) (fun a b=>qda a.1 b.1 b.2)
 (fun a b=>a.1.length<=1000000/\0<=b.2/\b.2<=a.1.length+1/\sQ a.1 (a.1.length+1-b.2.toNat) b.1=lg a.1 a.2)
 (fun a b=>a.1.length+1-b.2.toNat)
 (fun a r=>(r=(.ret,⟨39,[(4,.d (.bool (lg a.1 a.2)))],[]⟩))\/(lg a.1 a.2=false/\r=(.exit 0,⟨39,[],[]⟩)))
 (by
  rintro⟨l,x0⟩ ⟨x,k⟩ ⟨hm,h0,hk,hw⟩
  dsimp only at*
  (rw[<-qf5];delta im zr Z6U Z6T Z6S Z6V Zn Zo bT dF lB tD Za Z9 Zj ZO Ld r5 Z6O Z3 Zi Z71 Z6N jR nW Zx gP gO h9 gB gC uf iV)
  simp only[zaa]
  refine bf (fun h=> ?_) fun h=> ?_
  ·obtain⟨n,hn⟩: ∃n,l.length+1-k.toNat=n+1:=⟨l.length-k.toNat,by omega⟩
   rw[hn] at hw
   simp only[sQ] at hw
   refine⟨l,x,rfl,rfl,hm,?_⟩
   cases hp:eb l x with
   |none=>
    rw[hp] at hw
    rw[qk hp]
    refine ju (k8 (by decide)) (.inl ?_)
    simp only at hw
    rw[<-hw]
   |some p=>
    rw[hp] at hw
    simp only at hw
    obtain⟨i,hi,bN,hip⟩:=mU hp
    rw[hi]
    simp only[zb5]
    rw[iS bN,hip]
    refine eA (k9 (by omega)) (bs ⟨by omega,by omega⟩ (ao (hY p) (ax (fun he=> ?_) fun he=>⟨l,p.2.1,rfl,rfl,hm,?_⟩)))
    ·rw[zao (qdc (y:=aA) he)] at hw
     left
     rw[<-hw]
    ·rw[zam (qdd (y:=aA) he)] at hw
     cases hq:eb l p.2.1 with
     |none=>
      rw[hq] at hw
      rw[qk hq]
      refine ju (k8 (by decide)) (.inl ?_)
      simp only at hw
      rw[<-hw]
     |some q=>
      rw[hq] at hw
      simp only at hw
      obtain⟨j,hj,Ex,hjq⟩:=mU hq
      rw[hj]
      simp only[zb5]
      rw[iS Ex,hjq]
      refine eA (k9 (by omega)) (bs ⟨by omega,by omega⟩ (ao (hY q) (ax (fun hd=> ?_) fun hd=>ao (pG (by omega) (by omega)) ⟨l.length+1-(k+1).toNat,by omega,(p.2.1,k+1),rfl,⟨hm,by simp only;omega,by simp only;omega,?_⟩,rfl⟩)))
      ·have PS:(!q.2.2.2)=true:=hd
       rw[zao (by simpa using PS)] at hw
       left
       rw[<-hw]
      ·have PS:(!q.2.2.2)=false:=hd
       rw[zam (by simpa using PS)] at hw
       simp only
       rw[show l.length+1-(k+1).toNat=n by omega]
       exact hw
  ·have:l.length+1-k.toNat=0:=by omega
   rw[this] at hw
   exact .inr ⟨hw.symm,rfl⟩)
 (by
  rintro s post ⟨l,x,rfl,hm,h1,h2⟩
  refine⟨(l,x),(x,0),rfl,⟨hm,by simp,by simp only;omega,rfl⟩,?_⟩
  rintro r (rfl | ⟨h3,rfl⟩)
  ·exact h1 _ rfl
  ·exact h2 h3)
theorem qgb:FD X 119 qdb:=FD.mk (H:=[]) (hk:=[(2,ae (aL 119 2) gRo)]) (by kernel_rfl) .nil (.cons qde .nil) (by
 intro ps R post hh
 obtain⟨l,x,rfl,rfl,hm,hp⟩:=hh
 (rw[<-qf6];delta Z3 Z4 gh jR nW gP gO h9 gB gC oT vW Jo Z7 ZN bT dF im lB tD)
 exact⟨l,x,rfl,hm,fun b hb=>hp b hb,fun h=>hp false h.symm⟩)
theorem Ss:FD X 87 Gm:=Sj.weaken fun ps R post h=>by
 obtain⟨l,x,h1,h2,h3,h4⟩:=h
 exact⟨false,l,x,h1,h2,h3,h4⟩
theorem Gn {l:List Pl} {x:au}:eM l x<0↔(eb l x).isSome=false:=by
 cases h:eb l x with
 |none=>rw[qk h];simp
 |some p=>
  obtain⟨i,hi,_⟩:=mU h
  rw[hi]
  simp
theorem wG (l:List Pl):(l.map bI).take l.length=l.map bI:=zai (by simp)
theorem qdf:LD X 118 3 (ae (aL 118 3) gRi):=LD.par (H:=[(151,mL),(138,Bg),(87,Gm)]) (hk:=[]) (by kernel_rfl) (by kernel_rfl) (.cons rA (.cons C1 (.cons Ss .nil))) .nil
 (A:=List Pl) (B:=Int) (fun a k=>riH a (oO (a.take k.toNat)) (oO (a.take k.toNat)).length k)
 (fun a k=>a.length<=1000000/\0<=k/\k.toNat<=a.length)
 (fun a k=>(a.length-k).toNat)
 (fun a x=>x=(.exit 0,⟨43,[(3,.sl 0 0 (oO a).length)],[(0,⟨0,none,.arr 104 false ((oO a).map bI)⟩)]⟩))
 (by
  rintro l k ⟨hm,h0,h1⟩
  (rw[<-qij];delta im Ow He Zn vi ZB lB tD Za Z9 Zj Z7c Zg oh Nl Nn Np X2 Z79 Z78 r5 Z6N jR nW X3 gP gO h9 gB gC uf iV s6 vb Zx Zt ZE GY Jq qy Gk Z6q)
  simp only[zaa]
  refine bf (fun h=> ?_) fun h=> ?_
  ·have hk:k.toNat<l.length:=by omega
   rw[iS hk]
   have e:oO (l.take (k+1).toNat)=II (oO (l.take k.toNat)) (l.getD k.toNat sP):=by
    rw[show(k+1).toNat=k.toNat+1 by omega]
    exact IJ II [] l _ k.toNat hk
   have htl:=Du (l.take k.toNat)
   rw[zay] at htl
   generalize l.getD k.toNat sP=p at e
   generalize oO (l.take k.toNat)=T at e htl
   have go: ∀T',II T p=T'-> ∃m,m<((l.length:Int)-k).toNat/\ ∃b,(riH l T' T'.length (k+1):S)=riH l (oO (l.take b.toNat)) (oO (l.take b.toNat)).length b/\(l.length<=1000000/\0<=b/\b.toNat<=l.length)/\m=((l.length:Int)-b).toNat:=fun T' hT=>⟨((l.length:Int)-(k+1)).toNat,by omega,k+1,by rw[e,hT],⟨hm,by omega,by omega⟩,rfl⟩
   have fit:decide ((-9223372036854775808:Int)<=k+(1:Int)/\k+(1:Int)<=(9223372036854775807:Int))=true:=pG (by omega) (by omega)
   refine bs ⟨h0,by omega⟩ (ao (hY _) ⟨p.1.1,p.1.2.1,p.1.2.2,rfl,rfl,ax (fun h3=>bs ⟨h0,by omega⟩ (ao (hY _) ⟨p.2.2.1,rfl,rfl,ax (fun h4=>bs ⟨h0,by omega⟩ (ao (hY _) ⟨T,p.1,rfl,rfl,by omega,ax (fun h5=>bs ⟨h0,by omega⟩ (ao (hY _) (ao ?_ (ao fit ?_)))) fun h5=>ao fit ?_⟩)) fun h4=>ao fit ?_⟩)) fun h3=>ao fit ?_⟩)
   ·simp[aN]
    omega
   ·have hs:(eb T p.1).isSome=false:=Gn.1 (zbD h5)
    have:=go (T++[p]) (by unfold II;simp[hs,yj,h3,h4])
    rw[wG]
    have e1:(T++[p]).length=T.length+1:=by simp
    have e2:(T++[p]).map bI=T.map bI++[bI p]:=by simp
    simp only[riH,e1,e2] at this
    exact this
   ·have hs:(eb T p.1).isSome=true:=by
     cases hs:(eb T p.1).isSome with
     |true=>rfl
     |false=>exact absurd (Gn.2 hs) (zci h5)
    exact go T (by unfold II;simp[hs])
   ·refine go T ?_
    unfold II
    split
    ·rfl
    ·rw[zam (by simp[yj,h4])]
   ·refine go T ?_
    unfold II
    split
    ·rfl
    ·rw[zam (by simp[yj,h3])]
  ·rw[zai (by omega)];rfl)
 (by
  rintro s post ⟨l,rfl,hm,hp⟩
  refine⟨l,0,rfl,⟨hm,by decide,by simp⟩,?_⟩
  rintro x rfl
  exact hp)
theorem qil:FD X 118 hRi:=FD.mk (H:=[]) (hk:=[(3,ae (aL 118 3) gRi)]) (by kernel_rfl) .nil (.cons qdf .nil) (by
 intro ps R post hh
 obtain⟨l,rfl,rfl,hm,hp⟩:=hh
 (rw[<-qf7];delta Z7f jR nW zs Z7 M3 ZQ RH im lB tD Z7e)
 exact⟨l,rfl,hm,hp⟩)
theorem qdg:LD X 120 2 (ae (aL 120 2) gNa):=
 LD.scan (H:=[(88,iR),(152,IA)]) (hk:=[]) (by kernel_rfl) (by kernel_rfl) (.cons mM (.cons QI .nil)) .nil
  (A:=List Pl×Pl) (fun a k=>naH a.1 a.2 k) (·.1) sP (fun a q=>Ox a.2 q) (fun _=>True)
  (fun a _=>⟨54,[(3,.ref 0 0 0),(4,sD (lb a.2.2.2.1 a.2.1.1 a.2.1.2.1 a.2.1.2.2).1)],bxP 0 a.2⟩) (fun a=>⟨54,[(3,.ref 0 0 0)],bxP 0 a.2⟩)
  (by
   rintro⟨l,p⟩ k post _ hm h0 hk dO ht hf
   dsimp only at*
   (rw[<-qf8];delta bT dF Hf Oy Sk Sl Sm X4 X5 X6 Sn Zn Zo im lB tD Za Z9 Zj Z7r Zt ZE GY Sp Zx Sq Z7n Zg oh Nl Nn Np Jq qy r5 Gk Z6q)
   simp only[zaa]
   rw[iS dO]
   generalize l.getD k.toNat sP=q at ht hf
   have fit:decide ((-9223372036854775808:Int)<=k+(1:Int)/\k+(1:Int)<=(9223372036854775807:Int))=true:=pG (by omega) (by omega)
   refine ju (k8 hk) (bs ⟨h0,hk⟩ (ao (hY _) (ax (fun h1=>bs ⟨h0,hk⟩ (ao (hY _) (ax (fun h2=>bs ⟨h0,hk⟩ (ao (hY _) ⟨_,_,_,_,_,_,rfl,rfl,ax (fun h3=>⟨_,_,_,_,rfl,rfl,ht ?_⟩) fun h3=>ao fit (hf ?_)⟩)) fun h2=>ao fit (hf ?_)))) fun h1=>ao fit (hf ?_))))
   ·have N6:q.2.1=p.2.1:=qdc h1
    have h3':=(hZ q.1 p.1).1 (zbD h3)
    have h2':(q.2.2.1==p.2.2.1)=true:=h2
    simp[Ox,N6,h2',h3']
   ·have h3': ¬mh q.1 p.1=true:=fun h=>zci h3 ((hZ q.1 p.1).2 h)
    simp[Ox,h3']
   ·have h2':(q.2.2.1==p.2.2.1)=false:=h2
    simp[Ox,h2']
   ·have N6:q.2.1≠p.2.1:=qdd h1
    simp[Ox,N6])
  (by
   rintro⟨l,p⟩ k post _ hk hp
   dsimp only at*
   (rw[<-qf8];delta bT dF Hf Oy Sk Sl Sm X4 X5 X6 Sn Zn Zo im lB tD Za Z9 Zj Z7r Zt ZE GY Sp Zx Sq Z7n Zg oh Nl Nn Np Jq qy r5 Gk Z6q)
   simp only[zaa]
   exact eA (k9 hk) hp)
  (by
   rintro s post ⟨l,p,rfl,hm,h1,h2⟩
   refine⟨(l,p),rfl,trivial,hm,fun i hi h0=>h1 ?_,fun h=>h2 ?_⟩
   ·rw[<-Lf (Ox p) l,<-hi]
    exact k8 h0
   ·rw[<-Lf (Ox p) l]
    dsimp only at h
    rw[h]
    rfl)
theorem qgc:FD X 120 hNa:=FD.mk (H:=[]) (hk:=[(2,ae (aL 120 2) gNa)]) (by kernel_rfl) .nil (.cons qdg .nil) (by
 intro ps R post hh
 obtain⟨l,p,rfl,rfl,hm,hp⟩:=hh
 (rw[<-qf9];delta Oy jR nW Sk Sl Sm X4 X5 X6 Sn Z7 ZN bT dF im lB tD)
 have e:Nh l p=if l.any (Ox p)=true then(lb p.2.2.1 p.1.1 p.1.2.1 p.1.2.2).1 else p.2.2.1:=rfl
 exact⟨l,p,rfl,hm,fun h=>hp _ (by rw[e,zao h]),fun h=>hp _ (by rw[e,h];rfl)⟩)
theorem Sv {T:List Pl} {V:List au} (hu:Uq T):Uq (bb T V):=by
 unfold Uq
 exact FP hu V
theorem Nq {T:List Pl} {V:List au} (hu:Uq T) {x:au} {p:Pl} (h:marked T V x=true) (hp:eb T x=some p):eb (bb T V) x=some p:=by
 have:=KO (Sv (V:=V) hu) (R7 h hp)
 rwa [(jv hp).2] at this
theorem qdh:LD X 90 2 (ae (aL 90 2) gPa):=LD.par (H:=[(120,hNa),(87,Sb)]) (hk:=[]) (by kernel_rfl) (by kernel_rfl) (.cons qgc (.cons qaV .nil)) .nil
 (A:=List Pl×List au×List au) (B:=Pl×List UInt8×au×List au×List au) (fun a b=>paH (bb a.1 a.2.1) b.1 b.2.1)
 (fun⟨T,V,w0⟩ ⟨p,s,x,v,w⟩=>T.length<=1000/\Rt T/\w0.length<=T.length/\marked T V x=true/\eb T x=some p/\Up T x w/\w0=v++w/\s=pI ((v++[x]).reverse.map (Lb T V))/\(∀u∈w,marked T V u=true)/\(pI (w0.reverse.map (Lb T V))).length<=201*T.length/\s.length<=201*(v.length+1))
 (fun _ b=>b.2.2.2.2.length)
 (fun⟨T,V,w0⟩ r=>r=(.exit 0,⟨28,[(5,sD (pI (w0.reverse.map (Lb T V))))],[]⟩))
 (by
  rintro⟨T,V,w0⟩ ⟨p,s,x,v,w⟩ ⟨hm,hT,hw0,hmx,hpx,hw,Ce,hs,hmw,hlen,Kj⟩
  dsimp only at*
  have hsL:(bb T V).length<=T.length:=za4 _ _
  (rw[<-qik];delta bT dF im lB tD Z7u Zy rC Oy Sk Sl Sm X4 X5 X6 Z7t zr Z6U Z6T Z6S r5 Z6O jR nW Zx gP gO h9 gB gC uf iV)
  simp only[zaa]
  cases hw with
  |top h h0=>
   rw[hpx] at h
   cases h
   refine eA ?_ ?_
   ·rw[h0];rfl
   ·show _=_
    rw[Ce,hs]
  | @step _ p' q w' h h0 hq hd Fj=>
   rw[hpx] at h
   cases h
   obtain⟨r,hr⟩:=Fj.hd
   have hmq:marked T V p.2.1=true:=hmw _ (by rw[hr];simp)
   have hqs:=Nq hT.1 hmq hq
   obtain⟨i,hi,bN,Nr⟩:=mU hqs
   have rZ:=wF (bb T V) (hT.2 q (jv hq).1)
   have hnx:Lb T V p.2.1=Nh (bb T V) q:=by unfold Lb;rw[hq]
   have hvl:v.length+1<=T.length:=by
    have:=congrArg List.length Ce
    simp at this
    omega
   refine ju ?_ ⟨bb T V,p.2.1,rfl,rfl,by omega,?_⟩
   ·have:=s7 p.2.1 (0,0,0)
    rw[show(p.2.1==(0,0,0))=false by simpa using h0] at this
    simp only at this
    show(!_)=true
    rw[this]
    rfl
   rw[hi]
   simp only[zb5]
   rw[iS bN,Nr]
   refine bs ⟨by omega,by omega⟩ (ao (hY q) ⟨bb T V,q,rfl,rfl,by omega,fun s1 r0=> ?_⟩)
   subst r0
   refine bs (by omega) (bs (by simp;omega) ⟨w'.length,by simp,(q,[47]++Nh (bb T V) q++s,p.2.1,v++[x],w'),rfl,⟨hm,hT,hw0,hmq,hq,Fj,by rw[Ce];simp,?_,fun u hu=>hmw u (by simp[hu]),hlen,?_⟩,rfl⟩)
   ·simp only
    rw[hs,<-hnx]
    simp[pI]
   ·simp only
    simp
    omega)
 (by
  rintro s post ⟨T,V,x,p,w,rfl,⟨hm,hT,⟨hmx,hpx⟩,hw⟩,hp⟩
  obtain⟨w2,hw2,mw⟩:=Bk hmx
  have:=hw.one hw2
  subst this
  have hnx:Lb T V x=Nh (bb T V) p:=by unfold Lb;rw[hpx]
  have rZ:=wF (bb T V) (hT.2 p (jv hpx).1)
  refine⟨(T,V,w),(p,[47]++Nh (bb T V) p,x,[],w),rfl,⟨hm,hT,hw.len,hmx,hpx,hw,rfl,by rw[<-hnx];simp[pI],mw,Ni hT hw,by simp;omega⟩,?_⟩
  rintro r rfl
  exact hp)
theorem qim:FD X 90 hPa:=FD.mk (H:=[(120,hNa)]) (hk:=[(2,ae (aL 90 2) gPa)]) (by kernel_rfl) (.cons qgc .nil) (.cons qdh .nil) (by
 intro ps R post hh
 obtain⟨T,V,p,rfl,rfl,⟨hm,hT,hp0⟩,hp⟩:=hh
 obtain⟨hpT,Gf⟩:=XX hp0
 have Ez:=KO hT.1 hpT
 obtain⟨w,hw,_⟩:=Bk Gf
 have hsL:(bb T V).length<=T.length:=za4 _ _
 have rZ:=wF (bb T V) (hT.2 p hpT)
 (rw[<-qga];delta jR Oy Sk Sl Sm X4 X5 X6 Sn Z7u bT dF im lB tD Zy rC nW Zx Z7t)
 refine⟨bb T V,p,rfl,rfl,by omega,fun s hs=> ?_⟩
 subst hs
 refine bs (by omega) ⟨T,V,p.1,p,w,rfl,⟨hm,hT,⟨Gf,Ez⟩,hw⟩,?_⟩
 unfold Lc at hp
 rw[R8 hw] at hp
 exact hp)
end
abbrev Lh (n:Nat) (z:Bool) (l:List Pl):List (Nat×En):=[(n,⟨0,none,.arr 104 z (l.map bI)⟩)]
abbrev Ns (n:Nat) (l:List It):List (Nat×En):=[(n,⟨0,none,.arr 72 false (l.map fw)⟩)]
abbrev skH (z:Bool) (l:List Pl) (n:Nat) (v:List au) (o:List Pl) (m:Nat) (i:Int):S:=⟨62,[(0,.sl 0 0 n),(1,cO v),(5,.sl 1 0 m),(6,iD i)],Lh 0 z l++Lh 1 false o⟩
abbrev skI (z:Bool) (l:List Pl) (n:Nat) (v:List au) (o:List Pl) (m:Nat) (i:Int) (b:Bool) (k:Int):S:=⟨62,[(0,.sl 0 0 n),(1,cO v),(5,.sl 1 0 m),(6,iD i),(7,.d (.bool b)),(8,iD k)],Lh 0 z l++Lh 1 false o⟩
def Li (l:List Pl) (v:List au) (p q:Pl):Bool:=decide (q.1∈v)&&lg l q.1&&within l q.1 p.1
def qdi:S->K (PX×S):=fun s post=> ∃z l v o m i b,s=skI z l l.length v o m i b 0/\(l.length<=1000000/\v.length<=1000000/\0<=i/\i<l.length)/\
 ∀z' b',b'=(b ||l.any (Li l v (l.getD i.toNat sP)))->post (.exit 2,⟨62,[(0,.sl 0 0 l.length),(1,cO v),(5,.sl 1 0 m),(6,iD i),(7,.d (.bool b'))],Lh 0 z' l++Lh 1 false o⟩)
def Z7A (l:List Pl):Nat×En:=(0,En.mk 0 none (Obj.arr (104:TypeId) true (im l)))
def vo (b:Bool):Nat×P:=(7,gh b)
def Gp (o:List Pl):List (Nat×En):=[(1,Ow o)]
def Hg (z:Bool) (mV:List Pl):Nat×En:=(0,En.mk 0 none (Obj.arr (104:TypeId) z (im mV)))
def qz (k:Int):List (Nat×P):=[(8,P.d (Zn k))]
def Vi (m:Nat):Nat×P:=(5,P.sl 1 0 m)
theorem qgd (z:Bool) (l:List Pl) (n:Nat) (v:List au) (o:List Pl) (m:Nat) (i:Int) (b:Bool) (k:Int) (post:PX×S->Prop):(bif Se k n then bif my k n then bif Hc k l then bif qy l k then∃(ar:List au) (x:au),[lJ v,Jq l k]=lJ ar::iV x/\Zx/\pS ar/\bif decide (x∈ar) then bif my k n then bif Hc k l then bif qy l k then∃(iF:List Pl) (x:au),[P.d (D.sl 8 (List.take n (im l))),Jq l k]=lB iF::iV x/\Zx/\nW iF/\ ∀(Sw:Bool),Sw=lg iF x->bif Sw then bif my k n then bif Hc k l then bif qy l k then bif my i n then bif Hc i l then bif qy l i then∃(z:Bool) (mV:List Pl) (x:au) (y:au),[ZB n,Jq l k,Jq l i]=s6 mV::uf x::iV y/\[(0,En.mk 0 (some 0) (Obj.arr (104:TypeId) true (im l)))]=D3 z mV/\nW mV/\ ∀(b_2:Bool),b_2=within mV x y->bif b_2 then bif Zj k then post (PX.normal,S.mk 62 (qX n::nc v::Vi m::ZK i::(7,ZO)::qz k) (Hg z mV::Gp o)) else False else bif Zj k then post (PX.normal,S.mk 62 (qX n::nc v::Vi m::ZK i::vo b::qz k) (Hg z mV::Gp o)) else False else False else False else False else False else False else False else bif Zj k then post (PX.normal,S.mk 62 (qX n::nc v::Vi m::ZK i::vo b::qz k) (Z7A l::Gp o)) else False else False else False else False else bif Zj k then post (PX.normal,S.mk 62 (qX n::nc v::Vi m::ZK i::vo b::qz k) (Hg z l::Gp o)) else False else False else False else False else post (PX.exit 2,S.mk 62 [qX n,nc v,Vi m,ZK i,vo b] (Hg z l::Gp o)))=(aD [(91,Sh),(119,qdb),(86,qc9)] [] 89 8 (skI z l n v o m i b k)) post:=by kernel_rfl
def Jr:List (Nat×P):=[(8,P.d Z7)]
theorem qge (z:Bool) (l:List Pl) (n:Nat) (v:List au) (o:List Pl) (m:Nat) (i:Int) (post:PX×S->Prop):(bif Se i n then∃(Nk:Bool) (ar:List Pl) (de:List au) (aP:List Pl) (bY:Nat) (aG:Int) (b:Bool),S.mk 62 (qX n::nc v::Vi m::ZK i::(7,P.d Z3)::Jr) (Hg z l::Gp o)=S.mk 62 ((0,s6 ar)::nc de::Vi bY::ZK aG::vo b::Jr) (Hg Nk ar::Gp aP)/\(nW ar/\pS de/\(0:Int)<=aG/\aG<(↑(jR ar):Int))/\ ∀(z' b':Bool),b'=(b ||List.any ar (Li ar de (List.getD ar (Zg aG) sP)))->bif b' then bif decide ((0:Int)<=aG/\aG<(↑(jR ar):Int)) then bif Hc aG ar then bif qy ar aG then bif Nat.ble bY (r5 aP)&&aN (Z78 bY ar aG) 72 then bif Zj aG then post (PX.normal,S.mk 62 ((0,s6 ar)::nc de::(5,P.sl 1 0 (Z78 bY ar aG))::ZA aG) [Hg z' ar,(1,Z79 bY aP ar aG)]) else False else False else False else False else False else bif Zj aG then post (PX.normal,S.mk 62 ((0,s6 ar)::nc de::Vi bY::ZA aG) (Hg z' ar::Gp aP)) else False else post (PX.exit 0,S.mk 62 [ZC m] (He o)))=(aD [] [(8,ae (aL 89 8) qdi)] 89 4 (skH z l n v o m i)) post:=by kernel_rfl
def qdj:S->K (PX×S):=fun s post=> ∃l v,s=skH false (oO l) (oO l).length v [] 0 0/\(l.length<=1000000/\v.length<=1000000)/\post (.exit 0,⟨62,[(5,.sl 0 0 (bb (oO l) v).length)],Lh 0 false (bb (oO l) v)⟩)
def Z7G (l:List Pl) (de:List au):Nat×En:=(0,En.mk 0 none (Obj.arr (104:TypeId) false (List.map bI (bb (oO l) de))))
def Js:List (Nat×P):=[(6,P.d Z7)]
def zt:P:=P.sl 1 0 0
def Z7E:List (Nat×P):=(5,zt)::Js
def Z7F (ar:List Pl) (v:List au):S:=S.mk 62 ((0,P.sl 0 0 (List.length (oO ar)))::nc v::Z7E) [Z7f ar,(1,zs)]
theorem qin (l:List Pl) (v:List au) (post:P×List (Nat×En)->Prop):(∃(ar:List Pl),[lB l]=[lB ar]/\Zx/\nW ar/\ ∃(l:List Pl) (de:List au),Z7F ar v=Z7F l de/\(nW l/\pS de)/\post (P.sl 0 0 (List.length (bb (oO l) de)),[Z7G l de]))=(aJ [(118,hRi)] [(4,ae (aL 89 4) qdj)] 89 [eG l,cO v] []) post:=by kernel_rfl
def Jt:bq:=fun ps R post=> ∃l v,ps=[eG l,cO v]/\R=[]/\(l.length<=1000000/\v.length<=1000000)/\post (.sl 0 0 (bb (oO l) v).length,Lh 0 false (bb (oO l) v))
abbrev imH (z:Bool) (l:List Pl) (n:Nat) (v:List au) (o:List It) (m:Nat) (i:Int):S:=⟨77,[(1,cO v),(5,.sl 0 0 n),(6,.sl 1 0 m),(7,iD i)],Lh 0 z l++Ns 1 o⟩
abbrev imI (z:Bool) (l:List Pl) (n:Nat) (v:List au) (o:List It) (m:Nat) (i k:Int):S:=⟨77,[(1,cO v),(5,.sl 0 0 n),(6,.sl 1 0 m),(7,iD i),(9,iD k)],Lh 0 z l++Ns 1 o⟩
def qdk:S->K (PX×S):=fun s post=> ∃z l n v o a i k,s=imI z l n v (o++[a]) (o.length+1) i k/\(k=(o.length:Int)/\o.length<=1000000)/\post (.exit 2,imH z l n v (cJ Gj o a) (o.length+1) i)
def Z7R (o:List It):En:=En.mk 0 none (Obj.arr (72:TypeId) false (List.map fw o))
def rR (i:Int):Nat×P:=(7,P.d (Zt i))
def Ju (m:Nat):Nat×P:=(6,P.sl 1 0 m)
def Z7S (post:PX×S->Prop) (v:List au) (n:Nat) (m:Nat) (i:Int) (z:Bool) (l:List Pl) (o:List It):Prop:=post (PX.exit 2,S.mk 77 [nc v,ZC n,Ju m,rR i] [Hg z l,(1,Z7R o)])
def Sx (o:List It) (k:Int):D:=D.nth (List.map fw o) (Zg k)
def Z7L (o:List It) (k:Int):List D:=[D.int .i64 (D.ah (D.aq (Sx o k) 0)),D.int .i64 (D.ah (D.aq (Sx o k) 1)),D.int .i64 (D.ah (D.aq (Sx o k) 2)),D.str (D.eI (D.aq (Sx o k) 3)),D.bool (D.e7 (D.aq (Sx o k) 4)),D.bool (D.e7 (D.aq (Sx o k) 5))]
def Z7Q (k:Int):List (Nat×P):=[(9,Zs k)]
def Vj (o:List It) (k:Int):D:=D.nth (List.map fw o) (Zc k)
def Z7M (o:List It) (k:Int):List D:=List.set (List.map fw o) (Zg k) (D.aV (D.agg (Z7L o k)) [D.int .i64 (D.ah (D.aq (Vj o k) 0)),D.int .i64 (D.ah (D.aq (Vj o k) 1)),D.int .i64 (D.ah (D.aq (Vj o k) 2)),D.str (D.eI (D.aq (Vj o k) 3)),D.bool (D.e7 (D.aq (Vj o k) 4)),D.bool (D.e7 (D.aq (Vj o k) 5))])
def Z7N (o:List It) (k:Int):D:=D.nth (Z7M o k) (Zc k)
def wH (k:Int) (m:Nat):Bool:=decide ((0:Int)<=k-(1:Int)/\k-(1:Int)<(↑m:Int))
def Z7H (k:Int) (o:List It):Bool:=decide (Zg k<List.length (List.map fw o))
theorem qgf (z:Bool) (l:List Pl) (n:Nat) (v:List au) (o:List It) (m:Nat) (i k:Int) (post:PX×S->Prop):(bif Zr k then bif my k m then bif Z7H k o then bif cC PR (72:TypeId) (Sx o k) then bif Zb k then bif wH k m then bif decide (Zc k<List.length (List.map fw o)) then bif cC PR (72:TypeId) (Vj o k) then bif Op.bytesLess (D.eI (D.aq (Sx o k) 3)) (D.eI (D.aq (Vj o k) 3)) then bif Zb k then bif Zb k then bif wH k m then bif decide (Zc k<List.length (List.map fw o)) then bif cC PR (72:TypeId) (Vj o k) then bif my k m then bif Z7H k o then bif cC PR (72:TypeId) (Sx o k) then bif my k m then bif Z7H k o then bif cC PR (72:TypeId) (Sx o k) then bif wH k m then bif decide (Zc k<List.length (Z7M o k)) then bif cC PR (72:TypeId) (Z7N o k) then bif Zb k then post (PX.normal,S.mk 77 (nc v::ZC n::Ju m::rR i::Z7Q k) [Hg z l,(1,En.mk 0 none (Obj.arr (72:TypeId) false (List.set (Z7M o k) (Zc k) (D.aV (D.agg [D.int .i64 (D.ah (D.aq (Z7N o k) 0)),D.int .i64 (D.ah (D.aq (Z7N o k) 1)),D.int .i64 (D.ah (D.aq (Z7N o k) 2)),D.str (D.eI (D.aq (Z7N o k) 3)),D.bool (D.e7 (D.aq (Z7N o k) 4)),D.bool (D.e7 (D.aq (Z7N o k) 5))]) (Z7L o k)))))]) else False else False else False else False else False else False else False else False else False else False else False else False else False else False else False else Z7S post v n m i z l o else False else False else False else False else False else False else False else Z7S post v n m i z l o)=(aD [] [] 56 9 (imI z l n v o m i k)) post:=by kernel_rfl
def Z7U (k:Int):Nat×P:=(9,P.d (Zt k))
def Z7T (l:List Pl) (i:Int) (T:List Pl) (V:List au) (p:Pl) (ar:List au) (x:au):List D:=[D.agg [Np l i,Nn l i,Nl l i,D.str (Lc T V (Prod.fst p)),D.bool (D.e7 (D.aq (oh l i) 7)),D.bool !decide (x∈ar)]]
theorem qgg (z:Bool) (l:List Pl) (n:Nat) (v:List au) (o:List It) (m:Nat) (i:Int) (post:PX×S->Prop):(bif Se i n then bif my i n then bif Hc i l then bif qy l i then∃(T:List Pl) (V:List au) (p:Pl),[P.d (D.sl 8 (List.take n (im l))),P.d (D.agg (X2 l i))]=P.d (D.sl 8 (List.map bI (bb T V)))::Z7t p/\Zx/\(jR T<=1000/\Rt T/\p∈bb T V)/\ ∃(ar:List au) (x:au),[lJ v,Jq l i]=lJ ar::iV x/\Zx/\pS ar/\bif Nat.ble m (List.length (List.map fw o))&&aN (m+List.length (Z7T l i T V p ar x)) 48 then bif decide (Z9<=(↑(m+List.length (Z7T l i T V p ar x)):Int)-(1:Int)/\(↑(m+List.length (Z7T l i T V p ar x)):Int)-(1:Int)<=Za) then∃(z:Bool) (iF:List Pl) (cF:Nat) (de:List au) (aP:List It) (a:It) (aG:Int) (k:Int),S.mk 77 [nc v,ZC n,(6,P.sl 1 0 (m+List.length (Z7T l i T V p ar x))),rR i,(9,P.d (D.int .i64 ((↑(m+List.length (Z7T l i T V p ar x)):Int)-(1:Int))))] [Z7A l,(1,En.mk 0 none (Obj.arr (72:TypeId) false (List.take m (List.map fw o)++Z7T l i T V p ar x)))]=S.mk 77 [nc de,ZC cF,(6,P.sl 1 0 (List.length aP+1)),rR aG,Z7U k] [Hg z iF,(1,En.mk 0 none (Obj.arr (72:TypeId) false (List.map fw (aP++[a]))))]/\(k=(↑(List.length aP):Int)/\List.length aP<=1000000)/\bif Zj aG then post (PX.normal,S.mk 77 (nc de::ZC cF::(6,P.sl 1 0 (List.length aP+1))::ZL aG) [Hg z iF,(1,En.mk 0 none (Obj.arr (72:TypeId) false (List.map fw (cJ Gj aP a))))]) else False else False else False else False else False else False else post (PX.exit 0,S.mk 77 [(6,ZB m)] [(0,Z7R o)]))=(aD [(90,hPa),(91,Sh)] [(9,ae (aL 56 9) qdk)] 56 4 (imH z l n v o m i)) post:=by kernel_rfl
def qdl:S->K (PX×S):=fun s post=> ∃T v,s=imH false (bb T v) (bb T v).length v [] 0 0/\(T.length<=1000/\Rt T/\v.length<=1000000)/\post (.exit 0,⟨77,[(6,.sl 0 0 (jQ T v).length)],Ns 0 (jQ T v)⟩)
def Vk:En:=En.mk 0 none (Obj.arr (72:TypeId) false [])
def Z7V:List (Nat×P):=(6,zt)::rB
theorem qio (l:List Pl) (v:List au) (post:P×List (Nat×En)->Prop):(∃(ar:List Pl) (de:List au),[lB l,lJ v]=[lB ar,lJ de]/\Zx/\(nW ar/\pS de)/\ ∃(T:List Pl) (GX:List au),S.mk 77 (nc v::(5,P.sl 0 0 (List.length (bb (oO ar) de)))::Z7V) [Z7G ar de,(1,Vk)]=S.mk 77 (nc GX::(5,P.sl 0 0 (List.length (bb T GX)))::Z7V) [(0,En.mk 0 none (Obj.arr (104:TypeId) false (List.map bI (bb T GX)))),(1,Vk)]/\(jR T<=1000/\Rt T/\pS GX)/\post (P.sl 0 0 (List.length (jQ T GX)),[(0,En.mk 0 none (Obj.arr (72:TypeId) false (List.map fw (jQ T GX))))]))=(aJ [(89,Jt)] [(4,ae (aL 56 4) qdl)] 56 [eG l,cO v] []) post:=by kernel_rfl
def Dw:bq:=fun ps R post=> ∃l v,ps=[eG l,cO v]/\R=[]/\(l.length<=1000/\v.length<=1000000)/\post (.sl 0 0 (jQ (oO l) v).length,Ns 0 (jQ (oO l) v))
theorem X8 {T:List Pl} (hT:Rt T):eb T aA=none:=by
 cases h:eb T aA with
 |none=>rfl
 |some p=>
  obtain⟨h1,h2⟩:=jv h
  have:=hT.2 p h1
  simp[yj,h2,cp] at this
theorem Jv {T:List Pl} {V:List au} (hT:Rt T) {p:Pl} (hp:p∈T):T.any (Li T V p)=marked T V p.1:=by
 have dG:p.1≠aA:=fun e=>by
  have:=hT.2 p hp
  simp[yj,e,cp] at this
 have hw: ∀{x w},Up T x w->within T x p.1=decide (p.1∈w):=fun {x w} h=>IL h dG (X8 hT) _ (by have:=h.len;omega)
 rw[zaE,zbx,rE]
 constructor
 ·rintro⟨q,hq,h⟩
  simp only[Li,zab,zah] at h
  obtain⟨⟨h1,h2⟩,h3⟩:=h
  obtain⟨w,Fj⟩:=yo.1 h2
  rw[hw Fj] at h3
  exact⟨q.1,h1,w,Fj,by simpa using h3⟩
 ·rintro⟨x,hx,w,Fj,hm⟩
  obtain⟨q,hq⟩:=Fj.at
  obtain⟨q1,q2⟩:=jv hq
  refine⟨q,q1,?_⟩
  simp only[Li,zab,zah,q2]
  exact⟨⟨hx,yo.2 ⟨w,Fj⟩⟩,by rw[hw Fj];simpa using hm⟩
theorem Nt {α:Type} (f:α->Bool) (l:List α) (d:α) {k:Nat} (h:k<l.length):(l.take (k+1)).any f=((l.take k).any f ||f (l.getD k d)):=by
 rw[zb6,getD_some h d]
 simp
theorem Dx {α:Type} (f:α->Bool) (l:List α) (d:α) {k:Nat} (h:k<l.length):(l.take (k+1)).filter f=(l.take k).filter f++(if f (l.getD k d) then [l.getD k d] else []):=by
 rw[zb6,getD_some h d,zcl]
 simp only[Option.toList_some,List.filter_cons,List.filter_nil]
theorem Sy {α β:Type} (f:α->β) (pre nU:List α) (b a:α) (u v:β) (hu:u=f b) (hv:v=f a):(((pre++b::a::nU).map f).set (pre.length+1) u).set pre.length v=(pre++a::b::nU).map f:=by
 subst hu
 subst hv
 simp
section
variable {X:XF}
theorem X9:LD X 89 8 (ae (aL 89 8) qdi):=LD.par (H:=[(91,Sh),(119,qdb),(86,qc9)]) (hk:=[]) (by kernel_rfl) (by kernel_rfl) (.cons qaW (.cons qgb (.cons qaX .nil))) .nil
 (A:=List Pl×List au×List Pl×Nat×Int×Bool) (B:=Bool×Bool×Int) (fun⟨l,v,o,m,i,_⟩ ⟨z,b,k⟩=>skI z l l.length v o m i b k)
 (fun⟨l,v,_,_,i,b0⟩ ⟨_,b,k⟩=>l.length<=1000000/\v.length<=1000000/\0<=i/\i<l.length/\0<=k/\k<=l.length/\b=(b0 || (l.take k.toNat).any (Li l v (l.getD i.toNat sP))))
 (fun⟨l,_⟩ ⟨_,_,k⟩=>(l.length-k).toNat)
 (fun⟨l,v,o,m,i,b0⟩ x=> ∃z' b',b'=(b0 ||l.any (Li l v (l.getD i.toNat sP)))/\x=(.exit 2,⟨62,[(0,.sl 0 0 l.length),(1,cO v),(5,.sl 1 0 m),(6,iD i),(7,.d (.bool b'))],Lh 0 z' l++Lh 1 false o⟩))
 (by
  rintro⟨l,v,o,m,i,b0⟩ ⟨z,b,k⟩ ⟨hm,hv,oM,hi,h0,hk,hb⟩
  dsimp only at*
  (rw[<-qgd];delta im Z7A gh vo Ow Gp Hg Zn qz ZO Zt ZK Vi gq lJ nc ZB qX Za Z9 Zj Nj D3 gP gO h9 gB gC uf jR s6 nW lB ia pS Zx iV Zg oh Nl Nn Np Jq qy r5 Hc my Se)
  refine bf (fun h=> ?_) fun h=> ?_
  ·have dO:k.toNat<l.length:=by omega
   have bg:i.toNat<l.length:=by omega
   have Jw:=Nt (Li l v (l.getD i.toNat sP)) l sP dO
   rw[iS dO,iS bg]
   generalize l.getD k.toNat sP=q at Jw
   generalize l.getD i.toNat sP=p at Jw hb
   have fit:decide ((-9223372036854775808:Int)<=k+(1:Int)/\k+(1:Int)<=(9223372036854775807:Int))=true:=pG (by omega) (by omega)
   have go: ∀z' b',b'=(b ||Li l v p q)-> ∃m',m'<((l.length:Int)-k).toNat/\ ∃b2:Bool×Bool×Int,(skI z' l l.length v o m i b' (k+1):S)=skI b2.1 l l.length v o m i b2.2.1 b2.2.2/\
     (l.length<=1000000/\v.length<=1000000/\0<=i/\i<l.length/\0<=b2.2.2/\b2.2.2<=l.length/\b2.2.1=(b0 || (l.take b2.2.2.toNat).any (Li l v p)))/\m'=((l.length:Int)-b2.2.2).toNat:=fun z' b' dj=>⟨((l.length:Int)-(k+1)).toNat,by omega,(z',b',k+1),rfl,⟨hm,hv,oM,hi,by simp only;omega,by simp only;omega,by
      simp only
      rw[show(k+1).toNat=k.toNat+1 by omega,Jw,dj,hb,zdb]⟩,rfl⟩
   have dl:decide (k.toNat<(l.map bI).length)=true:=k8 (by rw[zaa];exact dO)
   have di:decide (i.toNat<(l.map bI).length)=true:=k8 (by rw[zaa];exact bg)
   refine bs ⟨h0,h⟩ (ao dl (ao (hY q) ⟨v,q.1,rfl,rfl,hv,ax (fun h1=>bs ⟨h0,h⟩ (ao dl (ao (hY q) ⟨l,q.1,by rw[wG];rfl,rfl,hm,fun b1 jJ=>ax (fun h2=>bs ⟨h0,h⟩ (ao dl (ao (hY q) (bs ⟨oM,hi⟩ (ao di (ao (hY p) ⟨true,l,q.1,p.1,rfl,rfl,hm,fun b2 cm=>ax (fun h3=>ao fit (go _ _ ?_)) fun h3=>ao fit (go _ _ ?_)⟩)))))) fun h2=>ao fit (go _ _ ?_)⟩))) fun h1=>ao fit (go _ _ ?_)⟩))
   ·unfold Li
    rw[h1,<-jJ,h2,<-cm,h3]
    simp
   ·unfold Li
    rw[h1,<-jJ,h2,<-cm,h3]
    simp
   ·unfold Li
    rw[h1,<-jJ,h2]
    simp
   ·unfold Li
    rw[h1]
    simp
  ·refine⟨z,b,?_,rfl⟩
   rw[hb,zai (by omega)])
 (by
  rintro s post ⟨z,l,v,o,m,i,b,rfl,⟨hm,hv,oM,hi⟩,hp⟩
  refine⟨(l,v,o,m,i,b),(z,b,0),rfl,⟨hm,hv,oM,hi,by simp,by simp,by simp⟩,?_⟩
  rintro x ⟨z',b',h1,rfl⟩
  exact hp z' b' h1)
theorem Ya:LD X 89 4 (ae (aL 89 4) qdj):=LD.par (H:=[]) (hk:=[(8,ae (aL 89 8) qdi)]) (by kernel_rfl) (by kernel_rfl) .nil (.cons X9 .nil)
 (A:=List Pl×List au) (B:=Bool×Int) (fun a b=>skH b.1 a.1 a.1.length a.2 ((a.1.take b.2.toNat).filter fun p=>marked a.1 a.2 p.1) ((a.1.take b.2.toNat).filter fun p=>marked a.1 a.2 p.1).length b.2)
 (fun a b=>a.1.length<=1000000/\a.2.length<=1000000/\Rt a.1/\0<=b.2/\b.2<=a.1.length)
 (fun a b=>(a.1.length-b.2).toNat)
 (fun a x=>x=(.exit 0,⟨62,[(5,.sl 0 0 (bb a.1 a.2).length)],Lh 0 false (bb a.1 a.2)⟩))
 (by
  rintro⟨l,v⟩ ⟨z,i⟩ ⟨hm,hv,hT,h0,hi⟩
  dsimp only at*
  (rw[<-qge];delta im Ow He ZB ZC Zg oh Nl Nn Np X2 Z79 Zn ZA Za Z9 Zj Z78 r5 qy Hc jR ia pS nW gh vo s6 Gp Hg Z7 Jr Z3 Zt ZK Vi gq lJ nc qX Se)
  refine bf (fun h=> ?_) fun h=> ?_
  ·have bg:i.toNat<l.length:=by omega
   have kC:=Dx (fun p:Pl=>marked l v p.1) l sP bg
   have Gf:l.getD i.toNat sP∈l:=zaC (getD_some bg sP)
   have vu:((l.take i.toNat).filter fun p=>marked l v p.1).length<=l.length:=zaI (za4 _ _) (by rw[zay];omega)
   refine⟨z,l,v,_,_,i,false,rfl,⟨hm,hv,h0,h⟩,fun z' b' dj=> ?_⟩
   rw[Jv hT Gf] at dj
   rw[iS bg]
   generalize l.getD i.toNat sP=p at kC dj
   generalize hoo:((l.take i.toNat).filter fun p=>marked l v p.1)=o at kC vu
   have fit:decide ((-9223372036854775808:Int)<=i+(1:Int)/\i+(1:Int)<=(9223372036854775807:Int))=true:=pG (by omega) (by omega)
   have go: ∀o',((l.take (i+1).toNat).filter fun p=>marked l v p.1)=o'-> ∃m',m'<((l.length:Int)-i).toNat/\ ∃b2:Bool×Int,(skH z' l l.length v o' o'.length (i+1):S)=skH b2.1 l l.length v ((l.take b2.2.toNat).filter fun p=>marked l v p.1) ((l.take b2.2.toNat).filter fun p=>marked l v p.1).length b2.2/\
     (l.length<=1000000/\v.length<=1000000/\Rt l/\0<=b2.2/\b2.2<=l.length)/\m'=((l.length:Int)-b2.2).toNat:=fun o' gf=>⟨((l.length:Int)-(i+1)).toNat,by omega,(z',i+1),by simp only;rw[gf],⟨hm,hv,hT,by simp only;omega,by simp only;omega⟩,rfl⟩
   have hs:(i+1).toNat=i.toNat+1:=by omega
   refine ax (fun hb=>bs ⟨h0,h⟩ (ao (k8 (by rw[zaa];exact bg)) (ao (hY p) (ao ?_ (ao fit ?_))))) fun hb=>ao fit ?_
   ·simp[aN]
    omega
   ·have:=go (o++[p]) (by rw[hs,kC,zao (by rw[<-hb,dj];rfl)])
    rw[wG]
    have e1:(o++[p]).length=o.length+1:=by simp
    have e2:(o++[p]).map bI=o.map bI++[bI p]:=by simp
    simp only[skH,Lh,e1,e2] at this
    exact this
   ·exact go o (by
     have:marked l v p.1=false:=by rw[<-hb,dj];rfl
     rw[hs,kC,this]
     simp)
  ·rw[zai (by omega)]
   rfl)
 (by
  rintro s post ⟨l,v,rfl,⟨hm,hv⟩,hp⟩
  have htl:=Du l
  refine⟨(oO l,v),(false,0),rfl,⟨by simp only;omega,hv,R6 l,by simp,by simp⟩,?_⟩
  rintro x rfl
  exact hp)
theorem Sz:FD X 89 Jt:=FD.mk (H:=[(118,hRi)]) (hk:=[(4,ae (aL 89 4) qdj)]) (by kernel_rfl) (.cons qil .nil) (.cons Ya .nil) (by
 intro ps R post hh
 obtain⟨l,v,rfl,rfl,⟨hm,hv⟩,hp⟩:=hh
 (rw[<-qin];delta Z7G ia pS zs Z7f Z7 Js zt Z7E gq lJ nc Z7F jR nW Zx im lB)
 exact⟨l,rfl,rfl,hm,l,v,rfl,⟨hm,hv⟩,hp⟩)
theorem Lj {l:List It} {i:Nat} (h:i<l.length) (x:It) (hx:l[i]?=some x):D.nth (l.map fw) i=fw x:=by
 rw[qc6 h it0]
 congr 1
 rw[zac,hx]
 rfl
theorem Yb:LD X 56 9 (ae (aL 56 9) qdk):=LD.par (H:=[]) (hk:=[]) (by kernel_rfl) (by kernel_rfl) .nil .nil
 (A:=Bool×List Pl×Nat×List au×List It×It×Int) (B:=List It×List It) (fun⟨z,l,n,v,o,a,i⟩ ⟨pre,nU⟩=>imI z l n v (pre++a::nU) (o.length+1) i (pre.length:Int))
 (fun⟨_,_,_,_,o,a,_⟩ ⟨pre,nU⟩=>o.length<=1000000/\pre.length+nU.length=o.length/\(nQ Gj a pre.reverse).reverse++nU=cJ Gj o a)
 (fun _ ⟨pre,_⟩=>pre.length)
 (fun⟨z,l,n,v,o,a,i⟩ x=>x=(.exit 2,imH z l n v (cJ Gj o a) (o.length+1) i))
 (by
  rintro⟨z,l,n,v,o,a,i⟩ ⟨pre,nU⟩ ⟨hm,hl,hr⟩
  dsimp only at*
  (rw[<-qgf];delta Z7R im Hg Zt rR Ju ZB ZC gq lJ nc Z7S Zg Sx Z7L Zs Z7Q Zc Vj Z7M Z7N wH Za Z9 Zb Z7H my Zr)
  rcases zcF pre with rfl | ⟨pre,b,rfl⟩
  ·refine eA (k9 (by simp)) ?_
   show _=_
   rw[<-hr]
   rfl
  ·simp only[List.concat_eq_append] at*
   rw[zan,List.length_singleton] at hl
   have fW:(((pre++[b]).length:Int)).toNat=pre.length+1:=by simp
   have rY:(((pre++[b]).length:Int)-1).toNat=pre.length:=by simp
   rw[fW,rY]
   have hlen:(((pre++[b])++a::nU).map fw).length=pre.length+nU.length+2:=by simp;omega
   have n1:D.nth (((pre++[b])++a::nU).map fw) (pre.length+1)=fw a:=Lj (by simp) _ (by simp)
   have n2:D.nth (((pre++[b])++a::nU).map fw) pre.length=fw b:=Lj (by simp) _ (by simp)
   have n3: ∀u,D.nth ((((pre++[b])++a::nU).map fw).set (pre.length+1) u) pre.length=fw b:=fun u=>by
    rw[<-n2]
    simp only[D.nth,zac]
    rw[zaW (by omega)]
   have hc:(((pre++[b]).length:Nat):Int)=(pre.length:Int)+1:=by simp
   rw[hc]
   rw[n1,n2]
   simp only[zbg,hlen,n3]
   have dl: ∀x,x<pre.length+nU.length+2->decide (x<pre.length+nU.length+2)=true:=fun x h=>k8 h
   refine ju (k8 (by omega)) ?_
   repeat (first
    |refine ao (k8 (show _/\_ from⟨by omega,by omega⟩)) ?_
    |refine ao (k8 (show _<_ by omega)) ?_
    |refine ao (qf3 _) ?_)
   refine ax (fun bG=> ?_) fun bG=> ?_
   ·repeat (first
     |refine ao (k8 (show _/\_ from⟨by omega,by omega⟩)) ?_
     |refine ao (k8 (show _<_ by omega)) ?_
     |refine ao (qf3 _) ?_)
    have Pj:Gj a b=true:=bG
    refine⟨pre.length,by simp,(pre,b::nU),?_,⟨hm,by simp only[zap];omega,?_⟩,rfl⟩
    ·have hsw:=Sy fw pre nU b a (fw b) (fw a) rfl rfl
     show _=imI z l n v (pre++a::b::nU) (o.length+1) i (pre.length:Int)
     have hk3:(pre.length:Int)+1-1=(pre.length:Int):=by omega
     rw[hk3]
     simp only[imI,Ns]
     rw[<-hsw]
     simp only[zaY,zb8]
     rfl
    ·simp only
     rw[<-hr,List.reverse_append,List.reverse_singleton,zb8,nQ,zao Pj]
     simp
   ·have Pj: ¬Gj a b=true:=by rw[show Gj a b=false from bG];simp
    show _=_
    rw[List.reverse_append,List.reverse_singleton,zb8,nQ,zam Pj] at hr
    rw[<-hr]
    simp)
 (by
  rintro s post ⟨z,l,n,v,o,a,i,k,rfl,⟨hk,hm⟩,hp⟩
  subst hk
  refine⟨(z,l,n,v,o,a,i),(o,[]),rfl,⟨hm,by simp,by simp[cJ]⟩,?_⟩
  rintro x rfl
  exact hp)
theorem Yc:LD X 56 4 (ae (aL 56 4) qdl):=LD.par (H:=[(90,hPa),(91,Sh)]) (hk:=[(9,ae (aL 56 9) qdk)]) (by kernel_rfl) (by kernel_rfl) (.cons qim (.cons qaW .nil)) (.cons Yb .nil)
 (A:=List Pl×List au) (B:=Bool×Int) (fun⟨T,v⟩ ⟨z,i⟩=>imH z (bb T v) (bb T v).length v (cc Gj (((bb T v).take i.toNat).map (lr T v))) (cc Gj (((bb T v).take i.toNat).map (lr T v))).length i)
 (fun⟨T,v⟩ ⟨_,i⟩=>T.length<=1000/\Rt T/\v.length<=1000000/\0<=i/\i<=(bb T v).length)
 (fun⟨T,v⟩ ⟨_,i⟩=>((bb T v).length-i).toNat)
 (fun⟨T,v⟩ x=>x=(.exit 0,⟨77,[(6,.sl 0 0 (jQ T v).length)],Ns 0 (jQ T v)⟩))
 (by
  rintro⟨T,v⟩ ⟨z,i⟩ ⟨hm,hT,hv,h0,hi⟩
  dsimp only at*
  have hsL:(bb T v).length<=T.length:=za4 _ _
  (rw[<-qgg];delta Z7R ZB Zn ZL Za Z9 Zj im Hg Zt Z7U Z7A rR ZC gq lJ nc Zg oh Nl Nn Np Z7T ia pS gP gO h9 gB gC uf iV Jq jR Zx Oy Sk Sl Sm X4 X5 X6 Z7t X2 qy r5 Hc my Se)
  refine bf (fun h=> ?_) fun h=> ?_
  ·have bg:i.toNat<(bb T v).length:=by omega
   have Gf:(bb T v).getD i.toNat sP∈bb T v:=zaC (getD_some bg sP)
   have lL:((bb T v).take (i+1).toNat).map (lr T v)=((bb T v).take i.toNat).map (lr T v)++[lr T v ((bb T v).getD i.toNat sP)]:=by
    rw[show(i+1).toNat=i.toNat+1 by omega,zb6,getD_some bg sP]
    simp
   have lX:(cc Gj (((bb T v).take i.toNat).map (lr T v))).length=i.toNat:=by
    rw[(cw _).length_eq,zaa,zay]
    omega
   have On:cc Gj (((bb T v).take (i+1).toNat).map (lr T v))=cJ Gj (cc Gj (((bb T v).take i.toNat).map (lr T v))) (lr T v ((bb T v).getD i.toNat sP)):=by
    rw[lL]
    unfold cc
    rw[za1]
    rfl
   rw[iS bg]
   generalize (bb T v).getD i.toNat sP=p at Gf On
   generalize cc Gj (((bb T v).take i.toNat).map (lr T v))=o at lX On
   have qgh:(cc Gj (((bb T v).take (i+1).toNat).map (lr T v))).length=o.length+1:=by
    rw[On,(gJ _ _).length_eq]
    simp
   have fit:decide ((-9223372036854775808:Int)<=i+(1:Int)/\i+(1:Int)<=(9223372036854775807:Int))=true:=pG (by omega) (by omega)
   refine bs ⟨h0,h⟩ (ao (k8 (by rw[zaa];exact bg)) (ao (hY p) ⟨T,v,p,by rw[wG];rfl,rfl,⟨hm,hT,Gf⟩,v,p.1,rfl,rfl,hv,ao ?_ (ao ?_ ⟨true,bb T v,(bb T v).length,v,o,lr T v p,i,((o.length+1:Nat):Int)-1,?_,⟨by omega,by omega⟩,ao fit ⟨((bb T v).length-(i+1)).toNat,by omega,(true,i+1),?_,⟨hm,hT,hv,by simp only;omega,by simp only;omega⟩,rfl⟩⟩)⟩))
   ·simp[aN]
    omega
   ·refine k8 (show(-9223372036854775808:Int)<=((o.length+1:Nat):Int)-1/\((o.length+1:Nat):Int)-1<=9223372036854775807 from⟨by omega,by omega⟩)
   ·have e2:(o++[lr T v p]).map fw=(o.map fw).take o.length++[fw (lr T v p)]:=by
     rw[zai (by simp)]
     simp
    rw[e2]
    rfl
   ·simp only
    rw[qgh,On]
    rfl
  ·have qgi:(bb T v).take i.toNat=bb T v:=zai (by omega)
   rw[qgi]
   rfl)
 (by
  rintro s post ⟨T,v,rfl,⟨hm,hT,hv⟩,hp⟩
  refine⟨(T,v),(false,0),rfl,⟨hm,hT,hv,by simp,by simp⟩,?_⟩
  rintro x rfl
  exact hp)
theorem SA:FD X 56 Dw:=FD.mk (H:=[(89,Jt)]) (hk:=[(4,ae (aL 56 4) qdl)]) (by kernel_rfl) (.cons Sz .nil) (.cons Yc .nil) (by
 intro ps R post hh
 obtain⟨l,v,rfl,rfl,⟨hm,hv⟩,hp⟩:=hh
 (rw[<-qio];delta jR Vk Z7G Z7 rB zt Z7V gq lJ nc ia pS nW Zx im lB)
 have htl:=Du l
 exact⟨l,v,rfl,rfl,⟨by omega,hv⟩,oO l,v,rfl,⟨by omega,R6 l,hv⟩,hp⟩)
end
abbrev Td:=au×Pl
def ltT (a b:Td):Bool:=mh a.1 b.1
def ltN (a b:Pl):Bool:=mh a.1 b.1
def Vl (o:List Td) (t:Td):List Td:=if(o.any fun x=>x.1==t.1)=true then o else cJ ltT o t
def Jx (a:List au) (p:List Pl):List Td:=(a.zip p).foldl Vl []
def SB (o:List Pl) (t:Td):List Pl:=
 if t.2.1=aA\/within o t.2.2.1 t.2.1=true then o
 else if 0<=eM o t.2.1 then o.set (eM o t.2.1).toNat (t.2.1,t.2.2.1,t.2.2.2.1,(o.getD (eM o t.2.1).toNat sP).2.2.2) else cJ ltN o t.2
def Nu (l:List Td):List Pl:=l.foldl SB []
def Am (x:Pl) (o:aW):List Pl:=if o.kind=0/\o.node=x.1 then [(x.1,x.2.1,x.2.2.1,o.dir)] else []
def mdG (x:Pl) (g:aj):List Pl:=g.ops.flatMap (Am x)
def D5 (l:List aj) (x:Pl):List Pl:=l.flatMap (mdG x)
def Hh (l:List aj) (p:List Pl):List Pl:=p.flatMap (D5 l)
def SC (gone:List bc) (o:List au) (d:bc):List au:=if d∈gone\/d.1∈o then o else cJ mh o d.1
def Nv (hv gone:List bc):List au:=hv.foldl (SC gone) []
theorem Yd (o:List Td) (t:Td):(Vl o t).length<=o.length+1:=by
 unfold Vl
 split
 ·omega
 ·rw[(gJ _ _).length_eq]
  simp
theorem Lk: ∀(l o:List Td),(l.foldl Vl o).length<=o.length+l.length
 | [],_=>by simp
 |x::r,o=>by
  have:=Lk r (Vl o x)
  have:=Yd o x
  simp only[za8,zap]
  omega
theorem wI (a:List au) (p:List Pl):(Jx a p).length<=a.length:=by
 have:=Lk (a.zip p) []
 simp only[List.length_zip,zat] at this
 unfold Jx
 omega
theorem Ye (o:List Pl) (t:Td):(SB o t).length<=o.length+1:=by
 unfold SB
 split
 ·omega
 ·split
  ·simp
  ·rw[(gJ _ _).length_eq]
   simp
theorem Ll: ∀(l:List Td) (o:List Pl),(l.foldl SB o).length<=o.length+l.length
 | [],_=>by simp
 |x::r,o=>by
  have:=Ll r (SB o x)
  have:=Ye o x
  simp only[za8,zap]
  omega
theorem Dy (l:List Td):(Nu l).length<=l.length:=by simpa [Nu] using Ll l []
theorem Yf (g:List bc) (o:List au) (d:bc):(SC g o d).length<=o.length+1:=by
 unfold SC
 split
 ·omega
 ·rw[(gJ _ _).length_eq]
  simp
theorem Gq (g:List bc): ∀(l:List bc) (o:List au),(l.foldl (SC g) o).length<=o.length+l.length
 | [],_=>by simp
 |x::r,o=>by
  have:=Gq g r (SC g o x)
  have:=Yf g o x
  simp only[za8,zap]
  omega
theorem Lm (hv g:List bc):(Nv hv g).length<=hv.length:=by simpa [Nv] using Gq g hv []
theorem Yg {s:az} {k n:Int} {o:aW} (h:kh s k o=some n):0<=n:=by
 unfold kh at h
 split at h
 ·cases h
 ·split at h
  ·split at h<;>cases h;decide
  ·split at h
   ·split at h<;>cases h;decide
   ·split at h
    ·split at h<;>cases h;decide
    ·split at h
     ·split at h
      ·rename_i hh
       cases h
       have:=hh.2.2.2
       unfold mO at this
       rw[zab,zah] at this
       omega
      ·cases h
     ·split at h
      ·split at h<;>cases h;decide
      ·cases h
theorem Gr {s:az} {k n:Int} {o:aW} (h:kh s k o=some n) (h0:o.kind=0):o.node=(s.1,s.2,k)/\n=1:=by
 unfold kh at h
 rw[zao h0] at h
 split at h
 ·cases h
 ·split at h
  ·rename_i hh
   cases h
   exact⟨hh.1,rfl⟩
  ·cases h
theorem Ln (x:Pl) (o:aW):(Am x o).length<=1:=by
 unfold Am
 split<;>simp
theorem Lo {s:az} (x:Pl): ∀(l:List aW) (k:Int),iT s k l=true->(l.flatMap (Am x)).length<=1/\(l.flatMap (Am x)≠[]-> ∃j,k<=j/\x.1=(s.1,s.2,j))
 | [],_,_=>⟨by simp,fun h=>absurd rfl h⟩
 |o::r,k,h=>by
  unfold iT at h
  split at h
  ·rename_i n hn
   obtain⟨h1,h2⟩:=Lo x r _ h
   have h3:=Yg hn
   rw[zcq]
   by_cases ho:o.kind=0/\o.node=x.1
   ·obtain⟨h4,h5⟩:=Gr hn ho.1
    have hx:x.1=(s.1,s.2,k):=by rw[<-ho.2,h4]
    have hr:r.flatMap (Am x)=[]:=zaN fun hr=>by
     obtain⟨j,h6,h7⟩:=h2 hr
     rw[hx] at h7
     injection h7 with _ h7
     injection h7 with _ h7
     omega
    rw[hr,zbj]
    exact⟨Ln x o,fun _=>⟨k,zby _,hx⟩⟩
   ·have:Am x o=[]:=by unfold Am;rw[zam ho]
    rw[this,zbh]
    exact⟨h1,fun hr=>by obtain⟨j,h6,h7⟩:=h2 hr;exact⟨j,by omega,h7⟩⟩
  ·cases h
theorem Lp {l:List aj} (x:Pl):(∀g∈l,cx g=true)->(l.map (·.s)).Nodup->(D5 l x).length<=1/\(D5 l x≠[]-> ∃g∈l,g.s=FQ x.1):=by
 induction l with
 |nil=>exact fun _ _=>⟨by simp[D5],fun h=>absurd rfl h⟩
 |cons g r ih=>
  intro hc hn
  rw[zbl,za7] at hn
  obtain⟨h1,h2⟩:=ih (fun y hy=>hc y (.tail _ hy)) hn.2
  obtain⟨h3,h4⟩:=Lo x g.ops 0 (Dt (hc g (.head _)))
  have e:D5 (g::r) x=g.ops.flatMap (Am x)++D5 r x:=rfl
  rw[e]
  by_cases hg:g.ops.flatMap (Am x)=[]
  ·rw[hg,zbh]
   exact⟨h1,fun h=>by obtain⟨y,hy,e⟩:=h2 h;exact⟨y,.tail _ hy,e⟩⟩
  ·obtain⟨j,_,hx⟩:=h4 hg
   have hs:g.s=FQ x.1:=by rw[hx]
   have hr:D5 r x=[]:=zaN fun hr=>by
    obtain⟨y,hy,e⟩:=h2 hr
    exact hn.1 (zaA.2 ⟨y,hy,by rw[e,hs]⟩)
   rw[hr,zbj]
   exact⟨h3,fun _=>⟨g,.head _,hs⟩⟩
theorem Dz {l:List aj} (hc: ∀g∈l,cx g=true) (hn:(l.map (·.s)).Nodup): ∀p:List Pl,(Hh l p).length<=p.length
 | []=>by simp[Hh]
 |x::r=>by
  have h1:=Dz hc hn r
  have h2:=(Lp x hc hn).1
  have e:Hh l (x::r)=D5 l x++Hh l r:=rfl
  rw[e,zan,zap]
  omega
def jz (d:bc):D:= .agg [iE d.1.1,iE d.1.2.1,iE d.1.2.2,iE d.2.1,iE d.2.2]
abbrev iX (l:List bc):P:= .d (.sl 5 (l.map jz))
abbrev qip (x:bc):Obj:= .box 106 [iD x.1.1,iD x.1.2.1,iD x.1.2.2,iD x.2.1,iD x.2.2]
abbrev qgj (z:Bool) (l:List bc):Obj:= .arr 106 z (l.map jz)
abbrev iq (z:Bool) (l:List au):Obj:= .arr 50 z (l.map bB)
abbrev pT (z:Bool) (l:List Pl):Obj:= .arr 104 z (l.map bI)
abbrev Yh (l:List bc) (x:bc) (i:Int):S:=⟨18,[(0,iX l),(3,.ref 0 0 0),(5,iD i)],[(0,⟨0,none,qip x⟩)]⟩
def Z83 (x:bc):List (Nat×En):=[(0,En.mk 0 none (Obj.box (106:TypeId) [P.d (D.int .i64 (Prod.fst (Prod.fst x))),P.d (D.int .i64 (Prod.fst (Prod.snd (Prod.fst x)))),P.d (D.int .i64 (Prod.snd (Prod.snd (Prod.fst x)))),P.d (D.int .i64 (Prod.fst (Prod.snd x))),P.d (D.int .i64 (Prod.snd (Prod.snd x)))]))]
def An (l:List bc):P:=P.d (D.sl 5 (List.map jz l))
def r7 (l:List bc):Nat×P:=(0,An l)
def yK (l:List bc) (i:Int):D:=D.nth (List.map jz l) (Zg i)
noncomputable def Nw (l:List bc) (i:Int):Bool:=cC PR (106:TypeId) (yK l i)
def Nx (i:Int) (l:List bc):Bool:=decide ((0:Int)<=i/\i<(↑(List.length (List.map jz l)):Int))
def Yi (i:Int) (l:List bc):Bool:=decide (i<(↑(List.length (List.map jz l)):Int))
theorem qaY (l:List bc) (x:bc) (i:Int) (post:PX×S->Prop):(bif Yi i l then bif Nx i l then bif Nw l i then bif D.ah (D.aq (yK l i) 0)==Prod.fst (Prod.fst x)&&(D.ah (D.aq (yK l i) 1)==Prod.fst (Prod.snd (Prod.fst x))&&true)&&(D.ah (D.aq (yK l i) 2)==Prod.snd (Prod.snd (Prod.fst x))&&true)&&(D.ah (D.aq (yK l i) 3)==Prod.fst (Prod.snd x)&&(D.ah (D.aq (yK l i) 4)==Prod.snd (Prod.snd x)&&true)&&true) then post (PX.ret,S.mk 18 Ld []) else bif Zj i then post (PX.normal,S.mk 18 (r7 l::dF::Zo i) (Z83 x)) else False else False else False else post (PX.exit 0,S.mk 18 [] []))=(aD [] [] 92 2 (Yh l x i)) post:=by kernel_rfl
def qdm:S->K (PX×S):=fun s post=> ∃l x,s=Yh l x 0/\l.length<=1000000/\(x∈l->post (.ret,⟨18,[(4,.d (.bool true))],[]⟩))/\(x∉l->post (.exit 0,⟨18,[],[]⟩))
def BB (ar:List bc):Prop:=List.length ar<=1000000
theorem qiq (l:List bc) (x:bc) (post:P×List (Nat×En)->Prop):(∃(ar:List bc) (aI:bc),S.mk 18 (r7 l::dF::ZN) (Z83 x)=S.mk 18 (r7 ar::dF::ZN) (Z83 aI)/\BB ar/\(aI∈ar->ZP post)/\(¬aI∈ar->Z4 post))=(aJ [] [(2,ae (aL 92 2) qdm)] 92 [iX l,.d (jz x)] []) post:=by kernel_rfl
def SD:bq:=fun ps R post=> ∃l x,ps=[iX l,.d (jz x)]/\R=[]/\l.length<=1000000/\ ∀b,b=decide (x∈l)->post (.d (.bool b),[])
abbrev qir (x:az):Obj:= .box 30 [iD x.1,iD x.2]
def Z87 (x:az):List (Nat×En):=[Hb x]
def Z86 (l:List az):Nat×P:=(0,uj l)
def Z85 (l:List az) (i:Int) (x:az):Bool:=G8 l i==Prod.fst x&&(IY l i==Prod.snd x&&true)
abbrev Yj (l:List az) (x:az) (i:Int):S:=⟨18,[(0,.sl 0 0 l.length),(3,.ref 1 0 0),(5,iD i)],[(0,⟨0,some 0,lZ false l⟩),(1,⟨0,none,qir x⟩)]⟩
theorem SE (l:List az) (x:az) (i:Int) (post:PX×S->Prop):(bif decide (i<(↑(eu l):Int)) then bif decide ((0:Int)<=i/\i<(↑(eu l):Int)) then bif K9 i l then bif vK l i then bif Z85 l i x then post (PX.ret,S.mk 18 ((0,zq l)::Ld) (D2 l)) else bif Zj i then post (PX.normal,S.mk 18 ((0,zq l)::r4::Zo i) [RX l,(1,Ah x)]) else False else False else False else False else post (PX.exit 0,S.mk 18 [(0,zq l)] (D2 l)))=(aD [] [] 42 2 (Yj l x i)) post:=by kernel_rfl
def SF:S->K (PX×S):=fun s post=> ∃l x,s=Yj l x 0/\l.length<=1000000/\(x∈l->post (.ret,⟨18,[(0,.sl 0 0 l.length),(4,.d (.bool true))],[(0,⟨0,some 0,lZ false l⟩)]⟩))/\(x∉l->post (.exit 0,⟨18,[(0,.sl 0 0 l.length)],[(0,⟨0,some 0,lZ false l⟩)]⟩))
def Z88 (l:List az) (x:az):S:=S.mk 18 ((0,zq l)::r4::ZN) [RX l,(1,Ah x)]
theorem qgk (l:List az) (x:az) (post:P×List (Nat×En)->Prop):(∃(ar:List az) (aI:az),Z88 l x=Z88 ar aI/\rN ar/\(aI∈ar->post (ZO,D2 ar))/\(¬aI∈ar->post (P.d Z3,D2 ar)))=(aJ [] [(2,ae (aL 42 2) SF)] 42 [.sl 0 0 l.length,.d (bh x)] [(0,⟨0,some 0,lZ false l⟩)]) post:=by kernel_rfl
def Gs:bq:=fun ps R post=> ∃l x,ps=[.sl 0 0 l.length,.d (bh x)]/\R=[(0,⟨0,some 0,lZ false l⟩)]/\l.length<=1000000/\ ∀b,b=decide (x∈l)->post (.d (.bool b),[(0,⟨0,some 0,lZ false l⟩)])
abbrev Yk (l:List au) (x:au) (i:Int):S:=⟨18,[(0,.sl 0 0 l.length),(3,.ref 1 0 0),(5,iD i)],[(0,⟨0,some 0,iq false l⟩),(1,⟨0,none,.box 50 [iD x.1,iD x.2.1,iD x.2.2]⟩)]⟩
def Z8c (l:List au):Nat×En:=(0,En.mk 0 (some 0) (Obj.arr (50:TypeId) false (gq l)))
def SG (l:List au):List (Nat×En):=[Z8c l]
def qA (l:List au):P:=P.sl 0 0 (ia l)
def SH (i:Int) (l:List au):Bool:=decide (Zg i<pL l)
def vX (l:List au):Int:=(↑(ia l):Int)
theorem SI (l:List au) (x:au) (i:Int) (post:PX×S->Prop):(bif decide (i<vX l) then bif decide ((0:Int)<=i/\i<vX l) then bif SH i l then bif wz l i then bif Z6I l i x then post (PX.ret,S.mk 18 ((0,qA l)::Ld) (SG l)) else bif Zj i then post (PX.normal,S.mk 18 ((0,qA l)::r4::Zo i) (Z8c l::Sd x)) else False else False else False else False else post (PX.exit 0,S.mk 18 [(0,qA l)] (SG l)))=(aD [] [] 91 2 (Yk l x i)) post:=by kernel_rfl
def SJ:S->K (PX×S):=fun s post=> ∃l x,s=Yk l x 0/\l.length<=1000000/\(x∈l->post (.ret,⟨18,[(0,.sl 0 0 l.length),(4,.d (.bool true))],[(0,⟨0,some 0,iq false l⟩)]⟩))/\(x∉l->post (.exit 0,⟨18,[(0,.sl 0 0 l.length)],[(0,⟨0,some 0,iq false l⟩)]⟩))
def Z8e (l:List au) (x:au):S:=S.mk 18 ((0,qA l)::r4::ZN) (Z8c l::Sd x)
theorem qgl (l:List au) (x:au) (post:P×List (Nat×En)->Prop):(∃(ar:List au) (aI:au),Z8e l x=Z8e ar aI/\pS ar/\(aI∈ar->post (ZO,SG ar))/\(¬aI∈ar->post (P.d Z3,SG ar)))=(aJ [] [(2,ae (aL 91 2) SJ)] 91 [.sl 0 0 l.length,.d (bB x)] [(0,⟨0,some 0,iq false l⟩)]) post:=by kernel_rfl
def SK:bq:=fun ps R post=> ∃l x,ps=[.sl 0 0 l.length,.d (bB x)]/\R=[(0,⟨0,some 0,iq false l⟩)]/\l.length<=1000000/\ ∀b,b=decide (x∈l)->post (.d (.bool b),[(0,⟨0,some 0,iq false l⟩)])
abbrev lvI (h g:List bc) (o:List au) (n:Nat) (i k:Int):S:=⟨72,[(0,iX h),(1,iX g),(5,.sl 0 0 n),(6,iD i),(8,iD k)],[(0,⟨0,none,iq false o⟩)]⟩
def Hi (o:List au):En:=En.mk 0 none (Obj.arr (50:TypeId) false (gq o))
def uw (o:List au):List (Nat×En):=[(0,Hi o)]
def Jy (i:Int):List (Nat×P):=[ZK i]
def Vm (o:List au) (k:Int):List D:=List.set (gq o) (Zg k) (D.aV (D.agg (MW o k)) (Vd o k))
def Z8j (o:List au) (k:Int):En:=En.mk 0 none (Obj.arr (50:TypeId) false (List.set (Vm o k) (Zc k) (D.aV (D.agg [D.int .i64 (D.ah (D.aq (D.nth (Vm o k) (Zc k)) 0)),D.int .i64 (D.ah (D.aq (D.nth (Vm o k) (Zc k)) 1)),D.int .i64 (D.ah (D.aq (D.nth (Vm o k) (Zc k)) 2))]) (MW o k))))
def Z8i (k:Int):List (Nat×P):=[(8,Zs k)]
def wJ (g:List bc):Nat×P:=(1,An g)
def Z8f (k:Int) (o:List au):Bool:=decide (Zc k<pL o)
theorem qgm (h g:List bc) (o:List au) (n:Nat) (i k:Int) (post:PX×S->Prop):(bif Zr k then bif my k n then bif SH k o then bif wz o k then bif Zb k then bif wH k n then bif Z8f k o then bif Oi o k then∃(t:Int) (r:Int) (aG:Int) (t':Int) (r':Int) (i':Int),[P.d (D.agg (MW o k)),P.d (D.agg (Vd o k))]=Sq t r aG t' r' i'/\Zx/\bif Sp t r aG t' r' i' then bif Zb k then bif Zb k then bif wH k n then bif Z8f k o then bif Oi o k then bif my k n then bif SH k o then bif wz o k then bif my k n then bif SH k o then bif wz o k then bif wH k n then bif decide (Zc k<List.length (Vm o k)) then bif cC PR (50:TypeId) (D.nth (Vm o k) (Zc k)) then bif Zb k then post (PX.normal,S.mk 72 (r7 h::wJ g::ZC n::ZK i::Z8i k) [(0,Z8j o k)]) else False else False else False else False else False else False else False else False else False else False else False else False else False else False else False else post (PX.exit 2,S.mk 72 (r7 h::wJ g::ZC n::Jy i) (uw o)) else False else False else False else False else False else False else False else post (PX.exit 2,S.mk 72 (r7 h::wJ g::ZC n::Jy i) (uw o)))=(aD [(88,iR)] [] 57 9 (lvI h g o n i k)) post:=by kernel_rfl
abbrev lvH (h g:List bc) (o:List au) (i:Int):S:=⟨72,[(0,iX h),(1,iX g),(5,.sl 0 0 o.length),(6,iD i)],[(0,⟨0,none,iq false o⟩)]⟩
def qdn:S->K (PX×S):=fun st post=> ∃h g o x n i k,st=lvI h g (o++[x]) n i k/\(k=(o.length:Int)/\n=o.length+1/\o.length<=1000000)/\ ∀o',o'=cJ mh o x->post (.exit 2,lvH h g o' i)
def Z8u (aP:List au) (x:au):En:=En.mk 0 none (Obj.arr (50:TypeId) false (List.map bB (aP++[x])))
def vp (k:Int):Nat×P:=(8,P.d (Zt k))
def Ny (k:Int):List (Nat×P):=[vp k]
def Z8q (h:List bc) (i:Int):D:=D.agg [D.int .i64 (D.ah (D.aq (yK h i) 0)),D.int .i64 (D.ah (D.aq (yK h i) 1)),D.int .i64 (D.ah (D.aq (yK h i) 2))]
def Z8r (o:List au) (h:List bc) (i:Int):Nat:=ia o+List.length [Z8q h i]
def Z8p (i:Int) (post:PX×S->Prop) (h:List bc) (g:List bc) (o:List au):Prop:=bif Zj i then post (PX.normal,S.mk 72 (r7 h::wJ g::(5,qA o)::ZA i) (uw o)) else False
def Z8n (h:List bc) (i:Int):List D:=[D.int .i64 (D.ah (D.aq (yK h i) 3)),D.int .i64 (D.ah (D.aq (yK h i) 4))]
def Z8o (g:List bc) (h:List bc) (i:Int) (l:List bc) (x:bc):Prop:=[An g,P.d (D.agg (D.int .i64 (D.ah (D.aq (yK h i) 0))::D.int .i64 (D.ah (D.aq (yK h i) 1))::D.int .i64 (D.ah (D.aq (yK h i) 2))::Z8n h i))]=[An l,P.d (D.agg [D.int .i64 (Prod.fst (Prod.fst x)),D.int .i64 (Prod.fst (Prod.snd (Prod.fst x))),D.int .i64 (Prod.snd (Prod.snd (Prod.fst x))),D.int .i64 (Prod.fst (Prod.snd x)),D.int .i64 (Prod.snd (Prod.snd x))])]
theorem qaZ (h g:List bc) (o:List au) (i:Int) (post:PX×S->Prop):(bif Yi i h then bif Nx i h then bif Nw h i then bif Nx i h then bif Nw h i then∃(l:List bc) (x:bc),Z8o g h i l x/\Zx/\BB l/\ ∀(b:Bool),b=decide (x∈l)->bif b then Z8p i post h g o else∃(l:List au) (x:au),[qA o,P.d (Z8q h i)]=qA l::iV x/\SG o=SG l/\pS l/\ ∀(b:Bool),b=decide (x∈l)->bif b then bif Zj i then post (PX.normal,S.mk 72 (r7 h::wJ g::(5,qA o)::ZA i) (uw l)) else False else bif Nat.ble (ia o) (pL l)&&aN (Z8r o h i) 24 then bif decide (Z9<=(↑(Z8r o h i):Int)-(1:Int)/\(↑(Z8r o h i):Int)-(1:Int)<=Za) then∃(qB:List bc) (aO:List bc) (aP:List au) (x:au) (n:Nat) (aG:Int) (k:Int),S.mk 72 [r7 h,wJ g,(5,P.sl 0 0 (Z8r o h i)),ZK i,(8,P.d (D.int .i64 ((↑(Z8r o h i):Int)-(1:Int))))] [(0,En.mk 0 none (Obj.arr (50:TypeId) false (List.take (ia o) (gq l)++[Z8q h i])))]=S.mk 72 (r7 qB::wJ aO::ZC n::ZK aG::Ny k) [(0,Z8u aP x)]/\(k=vX aP/\n=ia aP+1/\pS aP)/\ ∀(o':List au),o'=cJ mh aP x->Z8p aG post qB aO o' else False else False else False else False else False else False else post (PX.exit 0,S.mk 72 [(5,qA o)] (uw o)))=(aD [(92,SD),(91,SK)] [(9,ae (aL 57 9) qdn)] 57 3 (lvH h g o i)) post:=by kernel_rfl
def gLv:S->K (PX×S):=fun s post=> ∃h g,s=lvH h g [] 0/\(h.length<=1000000/\g.length<=1000000)/\ ∀o,o=Nv h g->post (.exit 0,⟨72,[(5,.sl 0 0 o.length)],[(0,⟨0,none,iq false o⟩)]⟩)
def Lq:En:=En.mk 0 none (Obj.arr (50:TypeId) false [])
def SL:List (Nat×P):=(5,ZQ)::Js
def Z8x (h:List bc) (g:List bc):S:=S.mk 72 (r7 h::wJ g::SL) [(0,Lq)]
theorem qis (h g:List bc) (post:P×List (Nat×En)->Prop):(∃(qB:List bc) (aO:List bc),Z8x h g=Z8x qB aO/\(BB qB/\BB aO)/\ ∀(o:List au),o=Nv qB aO->post (qA o,uw o))=(aJ [] [(3,ae (aL 57 3) gLv)] 57 [iX h,iX g] []) post:=by kernel_rfl
def SM:bq:=fun ps R post=> ∃h g,ps=[iX h,iX g]/\R=[]/\(h.length<=1000000/\g.length<=1000000)/\ ∀o,o=Nv h g->post (.sl 0 0 o.length,[(0,⟨0,none,iq false o⟩)])
theorem Jz (d:bc):cC PR 106 (jz d)=true:=by kernel_rfl
theorem qit (y x:bc):(y.1.1==x.1.1&&(y.1.2.1==x.1.2.1&&true)&&(y.1.2.2==x.1.2.2&&true)&&(y.2.1==x.2.1&&(y.2.2==x.2.2&&true)&&true))=(y==x):=by
 rw[zaE]
 obtain⟨⟨a,b,c⟩,d,e⟩:=y
 obtain⟨⟨a',b',c'⟩,d',e'⟩:=x
 simp[and_assoc]
theorem yL {α:Type} [BEq α] [LawfulBEq α] {l:List α} {x:α} {i:Nat} (hi:i<l.length) (ht:(l[i]==x)=true):x∈l:=by
 rw[<-eq_of_beq ht]
 exact zas hi
theorem yM {α:Type} [BEq α] [LawfulBEq α] {l:List α} {x:α} (h: ∀j (hj:j<l.length),(l[j]==x)=false):x∉l:=fun hx=>by
 obtain⟨j,hj,rfl⟩:=zaU hx
 have:=h j hj
 simp at this
section
variable {X:XF}
theorem Yl:LD X 92 2 (ae (aL 92 2) qdm):=LD.find (H:=[]) (hk:=[]) (by kernel_rfl) (by kernel_rfl) .nil .nil
 (A:=List bc×bc) (fun a k=>Yh a.1 a.2 k) (·.1) (fun a _ x=>x==a.2) (fun a=>a.1.length<=1000000) (fun _ _=>(.ret,⟨18,[(4,.d (.bool true))],[]⟩)) (fun _=>(.exit 0,⟨18,[],[]⟩)) (fun _ _ h=>by cases h) (fun _ h=>by cases h)
 (by
  rintro⟨l,x⟩ k post dO hm h0 hk ht hf
  dsimp only at*
  (rw[<-qaY];delta Z83 Zn Zo bT dF An r7 Za Z9 Zj ZO Ld Zg yK Nw Nx Yi)
  have e1:D.nth (l.map jz) k.toNat=jz l[k.toNat]:=ay _ _ _ dO
  have bg:k.toNat<(l.map jz).length:=by rw[zaa];exact dO
  rw[e1]
  have v:=qit l[k.toNat] x
  generalize l[k.toNat]=y at*
  rw[<-v] at ht hf
  simp only[Yh,zaa] at hf bg⊢
  exact bJ hk (ak ⟨h0,hk⟩ (ao (Jz _) (ax (fun h=>ht h) fun h=>ak (by omega) (hf h)))))
 (by
  rintro⟨l,x⟩ k post hm hk hp
  dsimp only at*
  (rw[<-qaY];delta Z83 Zn Zo bT dF An r7 Za Z9 Zj ZO Ld Zg yK Nw Nx Yi)
  exact lK (by first |omega | (simp only[zaa];omega)) hp)
 (by
  rintro s post ⟨l,x,rfl,hm,h1,h2⟩
  exact⟨(l,x),rfl,hm,fun _ hi _ ht _=>h1 (yL hi ht),fun h=>h2 (yM h)⟩)
theorem qa0:FD X 92 SD:=FD.mk (H:=[]) (hk:=[(2,ae (aL 92 2) qdm)]) (by kernel_rfl) .nil (.cons Yl .nil) (by
 intro ps R post hh
 obtain⟨l,x,rfl,rfl,hm,hp⟩:=hh
 (rw[<-qiq];delta Z3 Z4 ZO ZP BB Z83 Z7 ZN bT dF An r7)
 exact⟨l,x,rfl,hm,fun h=>hp _ (by simp[h]),fun h=>hp _ (by simp[h])⟩)
theorem SN:LD X 42 2 (ae (aL 42 2) SF):=LD.find (H:=[]) (hk:=[]) (by kernel_rfl) (by kernel_rfl) .nil .nil
 (A:=List az×az) (fun a k=>Yj a.1 a.2 k) (·.1) (fun a _ x=>x==a.2) (fun a=>a.1.length<=1000000) (fun a _=>(.ret,⟨18,[(0,.sl 0 0 a.1.length),(4,.d (.bool true))],[(0,⟨0,some 0,lZ false a.1⟩)]⟩)) (fun a=>(.exit 0,⟨18,[(0,.sl 0 0 a.1.length)],[(0,⟨0,some 0,lZ false a.1⟩)]⟩)) (fun _ _ h=>by cases h) (fun _ h=>by cases h)
 (by
  rintro⟨l,x⟩ k post dO hm h0 hk ht hf
  dsimp only at*
  (rw[<-SE];delta kj km Ah eK RX Zn Zo iC r4 Za Z9 Zj D2 ZO Ld eu zq Zg IY G8 Z85 vK K9)
  have e1:D.nth (l.map bh) k.toNat=bh l[k.toNat]:=ay _ _ _ dO
  have bg:k.toNat<(l.map bh).length:=by rw[zaa];exact dO
  rw[e1]
  have v:=MY l[k.toNat] x
  generalize l[k.toNat]=y at*
  rw[<-v] at ht hf
  simp only[Yj,zaa] at hf bg⊢
  exact bJ hk (ak ⟨h0,hk⟩ (ak bg (ao (jP _) (ax (fun h=>ht h) fun h=>ak (by omega) (hf h))))))
 (by
  rintro⟨l,x⟩ k post hm hk hp
  dsimp only at*
  (rw[<-SE];delta kj km Ah eK RX Zn Zo iC r4 Za Z9 Zj D2 ZO Ld eu zq Zg IY G8 Z85 vK K9)
  exact lK (by first |omega | (simp only[zaa];omega)) hp)
 (by
  rintro s post ⟨l,x,rfl,hm,h1,h2⟩
  exact⟨(l,x),rfl,hm,fun _ hi _ ht _=>h1 (yL hi ht),fun h=>h2 (yM h)⟩)
theorem SO:FD X 42 Gs:=FD.mk (H:=[]) (hk:=[(2,ae (aL 42 2) SF)]) (by kernel_rfl) .nil (.cons SN .nil) (by
 intro ps R post hh
 obtain⟨l,x,rfl,rfl,hm,hp⟩:=hh
 (rw[<-qgk];delta Z3 eK RX D2 ZO eu rN kj km Ah Z7 ZN iC r4 zq Z88)
 exact⟨l,x,rfl,hm,fun h=>hp _ (by simp[h]),fun h=>hp _ (by simp[h])⟩)
theorem SP:LD X 91 2 (ae (aL 91 2) SJ):=LD.find (H:=[]) (hk:=[]) (by kernel_rfl) (by kernel_rfl) .nil .nil
 (A:=List au×au) (fun a k=>Yk a.1 a.2 k) (·.1) (fun a _ x=>x==a.2) (fun a=>a.1.length<=1000000) (fun a _=>(.ret,⟨18,[(0,.sl 0 0 a.1.length),(4,.d (.bool true))],[(0,⟨0,some 0,iq false a.1⟩)]⟩)) (fun a=>(.exit 0,⟨18,[(0,.sl 0 0 a.1.length)],[(0,⟨0,some 0,iq false a.1⟩)]⟩)) (fun _ _ h=>by cases h) (fun _ h=>by cases h)
 (by
  rintro⟨l,x⟩ k post dO hm h0 hk ht hf
  dsimp only at*
  (rw[<-SI];delta gP gO h9 gB gC oT Sd gq Z8c Zn Zo iC r4 Za Z9 Zj SG ZO Ld ia qA Zg IZ I0 I1 Z6I wz pL SH vX)
  have e1:D.nth (l.map bB) k.toNat=bB l[k.toNat]:=ay _ _ _ dO
  have bg:k.toNat<(l.map bB).length:=by rw[zaa];exact dO
  rw[e1]
  have v:=DX l[k.toNat] x
  generalize l[k.toNat]=y at*
  rw[<-v] at ht hf
  simp only[Yk,zaa] at hf bg⊢
  exact bJ hk (ak ⟨h0,hk⟩ (ak bg (ao (lF _) (ax (fun h=>ht h) fun h=>ak (by omega) (hf h))))))
 (by
  rintro⟨l,x⟩ k post hm hk hp
  dsimp only at*
  (rw[<-SI];delta gP gO h9 gB gC oT Sd gq Z8c Zn Zo iC r4 Za Z9 Zj SG ZO Ld ia qA Zg IZ I0 I1 Z6I wz pL SH vX)
  exact lK (by first |omega | (simp only[zaa];omega)) hp)
 (by
  rintro s post ⟨l,x,rfl,hm,h1,h2⟩
  exact⟨(l,x),rfl,hm,fun _ hi _ ht _=>h1 (yL hi ht),fun h=>h2 (yM h)⟩)
theorem qdo:FD X 91 SK:=FD.mk (H:=[]) (hk:=[(2,ae (aL 91 2) SJ)]) (by kernel_rfl) .nil (.cons SP .nil) (by
 intro ps R post hh
 obtain⟨l,x,rfl,rfl,hm,hp⟩:=hh
 (rw[<-qgl];delta Z3 gq Z8c SG ZO ia pS gP gO h9 gB gC oT Sd Z7 ZN iC r4 qA Z8e)
 exact⟨l,x,rfl,hm,fun h=>hp _ (by simp[h]),fun h=>hp _ (by simp[h])⟩)
theorem Ym:LD X 57 9 (ae (aL 57 9) qdn):=LD.ins (H:=[(88,iR)]) (hk:=[]) (by kernel_rfl) (by kernel_rfl) (.cons mM .nil) .nil
 (A:=List bc×List bc×Nat×Int) (α:=au) (fun a o k=>lvI a.1 a.2.1 o a.2.2.1 a.2.2.2 k) mh (fun a=>a.2.2.1) (fun _=>True) (fun a o=>(.exit 2,⟨72,[(0,iX a.1),(1,iX a.2.1),(5,.sl 0 0 a.2.2.1),(6,iD a.2.2.2)],[(0,⟨0,none,iq false o⟩)]⟩)) (fun _ _ h=>by cases h)
 (by
  rintro⟨h,g,n,i⟩ o k post _ h0 Hj lX hk hz bZ dZ
  dsimp only at*
  subst Hj
  (rw[<-qgm];delta gq Hi uw Zt ZK Jy Zg IZ I0 I1 MW Zc Vd Vm Z8j Zs Z8i ZB ZC An wJ r7 Sp Zx ZE GY Sq Oi pL Z8f wH Za Z9 Zb wz SH my Zr)
  refine cA (fun hp=> ?_) fun hp=>hz (by omega)
  have fW:k.toNat-1<o.length:=by omega
  have ek:(k-1).toNat=k.toNat-1:=by omega
  have e1:D.nth (o.map bB) k.toNat=bB o[k.toNat]:=ay _ _ _ hk
  have e2:D.nth (o.map bB) (k.toNat-1)=bB o[k.toNat-1]:=ay _ _ _ fW
  have bZ:=bZ hp
  have dZ:=dZ hp
  have yN:=kB bB o k.toNat o[k.toNat] o[k.toNat-1]
  have e3: ∀z,D.nth ((o.map bB).set k.toNat z) (k.toNat-1)=bB o[k.toNat-1]:=fun z=>by
   unfold D.nth
   rw[zac,zaW (by omega)]
   simp[fW]
  rw[ek,e1,e2]
  simp only[e3]
  generalize o[k.toNat]=x at*
  generalize o[k.toNat-1]=y at*
  simp only[zaa,zbg] at dZ⊢
  have yO:0<=k/\k<(o.length:Int):=⟨h0,by omega⟩
  have yP:0<=k-1/\k-1<(o.length:Int):=⟨by omega,by omega⟩
  have hf:(-9223372036854775808:Int)<=k-1/\k-1<=9223372036854775807:=by omega
  refine ak yO (ak hk (ao (lF _) (ak hf (ak yP (ak fW (ao (lF _) ⟨(x).1,(x).2.1,(x).2.2,(y).1,(y).2.1,(y).2.2,rfl,rfl,cA (fun h=> ?_) fun h=>bZ (by rw[<-zaV];exact fun h2=>h ((hZ (x) (y)).2 h2))⟩))))))
  have hy:=dZ ((hZ (x) (y)).1 h)
  simp only[lvI,iq] at hy
  rw[<-yN] at hy
  refine ak hf (ak hf (ak yP (ak fW (ao (lF _) (ak yO (ak hk (ao (lF _) (ak yO (ak hk (ao (lF _) (ak yP (ak fW (ao (lF _) (ak hf ?_))))))))))))))
  exact hy)
 (by
  rintro s post ⟨h,g,o,x,n,i,k,rfl,⟨hk,hn,ho⟩,hp⟩
  refine⟨(h,g,n,i),o,x,k,rfl,hk,trivial,⟨hn.symm,ho⟩,?_⟩
  have:=hp _ rfl
  rw[lvH,ln,<-hn] at this
  exact this)
theorem Yn {h g:List bc} {i:Nat} (hi:i<h.length):Nv (h.take (i+1)) g=SC g (Nv (h.take i) g) h[i]:=by
 unfold Nv
 rw[zag hi,za1]
 rfl
theorem qdp:LD X 57 3 (ae (aL 57 3) gLv):=LD.idx (H:=[(92,SD),(91,SK)]) (hk:=[(9,ae (aL 57 9) qdn)]) (by kernel_rfl) (by kernel_rfl) (.cons qa0 (.cons qdo .nil)) (.cons Ym .nil)
 (A:=List bc×List bc) (B:=List au) (fun a o i=>lvH a.1 a.2 o i) (fun a=>a.1.length) (fun a i o=>(a.1.length<=1000000/\a.2.length<=1000000)/\o=Nv (a.1.take i) a.2)
 (fun a x=>x=(.exit 0,⟨72,[(5,.sl 0 0 (Nv a.1 a.2).length)],[(0,⟨0,none,iq false (Nv a.1 a.2)⟩)]⟩))
 (by
  rintro⟨h,g⟩ o i post h0 bN bg ⟨hm,ho⟩ hn br
  dsimp only at*
  (rw[<-qaZ];delta ia vX Z8u Zt vp Ny ZB ZC gq ZK Za Z9 Zg yK Z8q Z8r pL Hi uw Zn ZA An wJ r7 Zj pS Z8c SG gP gO h9 gB gC uf iV qA Z8p BB Zx Z8n Z8o Nw Nx Yi)
  have lX:o.length<=i.toNat:=by
   have:=Lm (h.take i.toNat) g
   rw[zay] at this
   rw[ho]
   omega
  have e1:D.nth (h.map jz) i.toNat=jz h[i.toNat]:=ay _ _ _ bg
  have kC:=Yn (g:=g) bg
  rw[<-ho] at kC
  have fT:=fun o' (gf:o'=SC g o h[i.toNat])=>hn o' ⟨hm,by rw[kC];exact gf⟩
  generalize h[i.toNat]=d at*
  rw[e1]
  simp only[zaa]
  have t1:List.take o.length (o.map bB)++[bB d.1]=(o++[d.1]).map bB:=cq bB o d.1
  refine bJ bN (ak ⟨h0,bN⟩ (ao (Jz _) (ak ⟨h0,bN⟩ (ao (Jz _) ⟨g,d,rfl,rfl,hm.2,fun b hb=> ?_⟩))))
  refine ax (fun DY=>ak (by omega) (fT o ?_)) fun BD=>⟨o,d.1,rfl,rfl,by omega,fun b2 cm=>ax (fun SQ=>ak (by omega) (fT o ?_)) fun SR=> ?_⟩
  ·unfold SC
   rw[hb,zah] at DY
   rw[zao (.inl DY)]
  ·unfold SC
   rw[cm,zah] at SQ
   rw[zao (.inr SQ)]
  ·rw[hb,zaO] at BD
   rw[cm,zaO] at SR
   have SS:SC g o d=cJ mh o d.1:=by
    unfold SC
    rw[zam (fun hh=>hh.elim BD SR)]
   simp only[zap,zat,zaF]
   refine ao ?_ (ak (by omega) ⟨h,g,o,d.1,o.length+1,i,((o.length+1:Nat):Int)-1,congrArg (fun z=>(⟨72,[(0,iX h),(1,iX g),(5,.sl 0 0 (o.length+1)),(6,iD i),(8,iD (((o.length+1:Nat):Int)-1))],[(0,⟨0,none,.arr 50 false z⟩)]⟩:S)) t1,⟨by omega,rfl,by omega⟩,fun o' gf=>ak (by omega) (fT o' (by rw[SS];exact gf))⟩)
   rw[zab]
   exact⟨by simp,cj (by omega) (by omega)⟩
 )
 (by
  rintro⟨h,g⟩ o i post hi ⟨hm,ho⟩ br
  dsimp only at*
  (rw[<-qaZ];delta ia vX Z8u Zt vp Ny ZB ZC gq ZK Za Z9 Zg yK Z8q Z8r pL Hi uw Zn ZA An wJ r7 Zj pS Z8c SG gP gO h9 gB gC uf iV qA Z8p BB Zx Z8n Z8o Nw Nx Yi)
  refine lK (by simp only[zaa];omega) (br _ (fun h=>by cases h) ?_)
  rw[ho,zak])
 (by
  rintro s post ⟨h,g,rfl,hs,hp⟩
  refine⟨(h,g),[],rfl,⟨hs,rfl⟩,?_⟩
  rintro x rfl
  exact hp _ rfl)
theorem qdq:FD X 57 SM:=FD.mk (H:=[]) (hk:=[(3,ae (aL 57 3) gLv)]) (by kernel_rfl) .nil (.cons qdp .nil) (by
 intro ps R post hh
 obtain⟨h,g,rfl,rfl,hs,hp⟩:=hh
 (rw[<-qis];delta gq Hi uw ia qA BB Lq Z7 Js ZQ SL An wJ r7 Z8x)
 exact⟨h,g,rfl,hs,fun o ho=>hp o ho⟩)
end
abbrev Im:Hd:=((0,0),(0,0))
def SU:S->K (PX×S):=fun st post=> ∃l out i b,st=qcQ l out b i 0/\(b=false/\0<=i/\i<(l.length:Int)/\l.length<=1000000/\out.length<=1000000)/\ ∀h,h=out.any (fun y=>y.1==(l.getD i.toNat Im).1)->post (.exit 2,⟨80,[(0,yF l),(3,.sl 0 0 out.length),(4,iD i),(5,.d (.bool h))],[(0,⟨0,none,vQ false out⟩)]⟩)
def Nz (a b:Hd):Bool:=lG b.1 a.1
abbrev SV (l out:List Hd) (n:Nat) (i k:Int):S:=⟨80,[(0,yF l),(3,.sl 0 0 n),(4,iD i),(7,iD k)],[(0,⟨0,none,vQ false out⟩)]⟩
def SX:S->K (PX×S):=fun st post=> ∃l o x n i k,st=SV l (o++[x]) n i k/\(k=(o.length:Int)/\n=o.length+1/\o.length<=1000000)/\ ∀o',o'=cJ Nz o x->post (.exit 4,RR l o' i)
def Z8A (gL:List Hd) (ar:List Hd) (aG:Int):En:=En.mk 0 none (Obj.arr (139:TypeId) false (Jk gL++[D.agg (XM ar aG)]))
def SY (gL:List Hd) (ar:List Hd) (aG:Int):Nat:=fN gL+List.length [D.agg (XM ar aG)]
def Z8y (aG:Int) (post:PX×S->Prop) (ar:List Hd) (gL:List Hd):Prop:=bif Zj aG then post (PX.normal,S.mk 80 (D1 ar::rM gL::vi aG) (wE gL)) else False
theorem SZ (l out:List Hd) (i:Int) (post:PX×S->Prop):(bif decide (i<(↑(vT l):Int)) then∃(ar:List Hd) (gL:List Hd) (aG:Int) (b:Bool),S.mk 80 (D1 l::rM out::nf i::(5,P.d Z3)::Js) (wE out)=S.mk 80 (D1 ar::rM gL::nf aG::(5,gh b)::Js) (wE gL)/\(b=false/\(0:Int)<=aG/\aG<ur ar/\qi ar/\qi gL)/\ ∀(h:Bool),(h=List.any gL fun(y:Hd)=>Prod.fst y==Prod.fst (List.getD ar (Zg aG) Im))->bif h then Z8y aG post ar gL else bif Z64 aG ar then bif Bv ar aG then bif Nat.ble (fN gL) (vT gL)&&aN (SY gL ar aG) 32 then bif decide (Z9<=(↑(SY gL ar aG):Int)-(1:Int)/\(↑(SY gL ar aG):Int)-(1:Int)<=Za) then∃(l:List Hd) (o:List Hd) (x:Hd) (n:Nat) (i:Int) (k:Int),S.mk 80 [D1 ar,(3,P.sl 0 0 (SY gL ar aG)),nf aG,(7,P.d (D.int .i64 ((↑(SY gL ar aG):Int)-(1:Int))))] [(0,Z8A gL ar aG)]=S.mk 80 [D1 l,(3,ZB n),nf i,rR k] [(0,En.mk 0 none (Obj.arr (139:TypeId) false (List.map bL (o++[x]))))]/\(k=ur o/\n=fN o+1/\qi o)/\ ∀(o':List Hd),o'=cJ Nz o x->Z8y i post l o' else False else False else False else False else post (PX.exit 0,S.mk 80 [rM out] (wE out)))=(aD [] [(7,ae (aL 84 7) SU),(13,ae (aL 84 13) SX)] 84 3 (RR l out i)) post:=by kernel_rfl
def S0:S->K (PX×S):=fun st post=> ∃l,st=RR l [] 0/\l.length<=1000000/\ ∀o,o=cc Nz (rG l)->post (.exit 0,⟨80,[(3,.sl 0 0 o.length)],[(0,⟨0,none,vQ false o⟩)]⟩)
def Z8B:En:=En.mk 0 none (Obj.arr (139:TypeId) false [])
def Z8C (l:List Hd):S:=S.mk 80 (D1 l::RH) [(0,Z8B)]
theorem qgn (l:List Hd) (post:P×List (Nat×En)->Prop):(∃(ar:List Hd),Z8C l=Z8C ar/\qi ar/\ ∀(o:List Hd),o=cc Nz (rG ar)->post (qw o,wE o))=(aJ [] [(3,ae (aL 84 3) S0)] 84 [yF l] []) post:=by kernel_rfl
def qdr:bq:=fun ps R post=> ∃l,ps=[yF l]/\R=[]/\l.length<=1000000/\ ∀o,o=cc Nz (rG l)->post (.sl 0 0 o.length,[(0,⟨0,none,vQ false o⟩)])
def qds:S->K (PX×S):=fun st post=> ∃l,st=XP l [] 0/\l.length<=1000000/\ ∀o,o=l.map ll->post (.exit 0,⟨26,[(3,.sl 0 0 o.length)],[(0,⟨0,none,vQ false o⟩)]⟩)
def Z8D (l:List aj):S:=S.mk 26 (gi l::RH) [(0,Z8B)]
theorem qgo (l:List aj) (post:P×List (Nat×En)->Prop):(∃(ar:List aj),Z8D l=Z8D ar/\mx ar/\ ∀(o:List Hd),o=List.map ll ar->post (qw o,wE o))=(aJ [] [(3,ae (aL 44 3) qds)] 44 [bP l] []) post:=by kernel_rfl
def qdt:bq:=fun ps R post=> ∃l,ps=[bP l]/\R=[]/\l.length<=1000000/\ ∀o,o=l.map ll->post (.sl 0 0 o.length,[(0,⟨0,none,vQ false o⟩)])
abbrev qdu (m on:List Hd) (i:Int) (un:Bool) (k:Int):S:=⟨63,[(3,.sl 0 0 m.length),(4,.sl 1 0 on.length),(5,iD i),(6,.d (.bool un)),(7,iD k)],[(0,⟨0,none,vQ false m⟩),(1,⟨0,none,vQ false on⟩)]⟩
def S1:S->K (PX×S):=fun st post=> ∃m on i b,st=qdu m on i b 0/\(b=false/\0<=i/\i<(m.length:Int)/\m.length<=1000000/\on.length<=1000000)/\ ∀h,h=on.any (fun y=>y.2==(m.getD i.toNat Im).1)->post (.exit 2,⟨63,[(3,.sl 0 0 m.length),(4,.sl 1 0 on.length),(5,iD i),(6,.d (.bool h))],[(0,⟨0,none,vQ false m⟩),(1,⟨0,none,vQ false on⟩)]⟩)
def Vn (m:List Hd) (on:List Hd):List (Nat×En):=[zp m,(1,Gd on)]
def D6 (i:Int):Nat×P:=(5,P.d (Zt i))
def Vo (on:List Hd):Nat×P:=(4,P.sl 1 0 (fN on))
theorem S2 (m on:List Hd) (i:Int) (un:Bool) (k:Int) (post:PX×S->Prop):(bif Ou k on then bif un then bif Zj k then post (PX.normal,S.mk 63 (rM m::Vo on::D6 i::(6,ZO)::ZL k) (Vn m on)) else False else bif Ds k on then bif Dr k on then bif Bv on k then bif Ds i m then bif Dr i m then bif Bv m i then bif Zj k then post (PX.normal,S.mk 63 (rM m::Vo on::D6 i::(6,P.d (D.bool (D.ah (D.aq (wC on k) 2)==Dq m i&&(D.ah (D.aq (wC on k) 3)==Gc m i&&true))))::ZL k) (Vn m on)) else False else False else False else False else False else False else False else post (PX.exit 2,S.mk 63 [rM m,Vo on,D6 i,(6,gh un)] (Vn m on)))=(aD [] [] 53 8 (qdu m on i un k)) post:=by kernel_rfl
abbrev Yo (m on:List Hd) (i:Int):S:=⟨63,[(3,.sl 0 0 m.length),(4,.sl 1 0 on.length),(5,iD i)],[(0,⟨0,none,vQ false m⟩),(1,⟨0,none,vQ false on⟩)]⟩
abbrev Yp (on:List Hd) (out:List az) (i:Int):S:=⟨63,[(4,.sl 0 0 on.length),(8,.sl 1 0 out.length),(9,iD i)],[(0,⟨0,none,vQ false on⟩),(1,⟨0,none,lZ false out⟩)]⟩
theorem qdv (on:List Hd) (out:List az) (i:Int) (post:PX×S->Prop):(bif Z2 i then bif Ds i on then bif Dr i on then bif Bv on i then bif Nat.ble (eu out) (List.length (eK out))&&aN (eu out+List.length [XL on i]) 16 then bif Zb i then post (PX.normal,S.mk 63 ((4,qw on)::(8,P.sl 1 0 (eu out+List.length [XL on i]))::Z7Q i) [zp on,(1,En.mk 0 none (Obj.arr (30:TypeId) false (List.take (eu out) (eK out)++[XL on i])))]) else False else False else False else False else False else post (PX.exit 4,S.mk 63 [(8,zq out)] (Nd out)))=(aD [] [] 53 15 (Yp on out i)) post:=by kernel_rfl
theorem S3 (m on:List Hd) (i:Int) (post:PX×S->Prop):(bif Ou i m then∃(bY:List Hd) (aM:List Hd) (aG:Int) (b:Bool),S.mk 63 (rM m::Vo on::D6 i::(6,P.d Z3)::rB) (Vn m on)=S.mk 63 (rM bY::Vo aM::D6 aG::(6,gh b)::rB) (Vn bY aM)/\(b=false/\(0:Int)<=aG/\aG<ur bY/\qi bY/\qi aM)/\ ∀(h:Bool),(h=List.any aM fun(y:Hd)=>Prod.snd y==Prod.fst (List.getD bY (Zg aG) Im))->bif jY h then bif Ds aG bY then bif Dr aG bY then bif Bv bY aG then bif Nat.ble (fN aM) (vT aM)&&aN (SY aM bY aG) 32 then bif Zj aG then post (PX.normal,S.mk 63 (rM bY::(4,P.sl 1 0 (SY aM bY aG))::Zo aG) [zp bY,(1,Z8A aM bY aG)]) else False else False else False else False else False else bif Zj aG then post (PX.normal,S.mk 63 (rM bY::Vo aM::Zo aG) (Vn bY aM)) else False else post (PX.exit 0,S.mk 63 [(4,qw on)] (wE on)))=(aD [] [(8,ae (aL 53 8) S1)] 53 4 (Yo m on i)) post:=by kernel_rfl
def S4:S->K (PX×S):=fun st post=> ∃m,st=Yo m [] 0/\m.length<=1000000/\ ∀o,o=KV m []->post (.exit 0,⟨63,[(4,.sl 0 0 o.length)],[(0,⟨0,none,vQ false o⟩)]⟩)
def S5:S->K (PX×S):=fun st post=> ∃on i,st=Yp on [] i/\(i=(on.length:Int)-1/\on.length<=1000000)/\ ∀o,o=(on.map (·.1)).reverse->post (.exit 4,⟨63,[(8,.sl 0 0 o.length)],[(0,⟨0,none,lZ false o⟩)]⟩)
def Z8I (o:List Hd):S:=S.mk 63 (rM o::(4,zt)::ZN) [zp o,(1,Z8B)]
def Z8H (l:List Hd):List P:=[P.d (D.sl 4 (List.map bL l))]
theorem qgp (l:List Hd) (post:P×List (Nat×En)->Prop):(∃(ar:List Hd),Z8H l=Z8H ar/\Zx/\qi ar/\ ∀(o:List Hd),o=cc Nz (rG ar)-> ∃(m:List Hd),Z8I o=Z8I m/\qi m/\ ∀(o:List Hd),o=KV m []->bif decide (Z9<=ur o-(1:Int)/\ur o-(1:Int)<=Za) then∃(on:List Hd) (i:Int),S.mk 63 [(4,qw o),(8,zt),(9,P.d (D.int .i64 (ur o-(1:Int))))] [zp o,(1,vU)]=S.mk 63 [(4,qw on),(8,zt),Z7U i] [zp on,(1,vU)]/\(i=ur on-(1:Int)/\qi on)/\ ∀(o:List az),o=List.reverse (List.map (fun(x:Hd)=>Prod.fst x) on)->post (zq o,Nd o) else False)=(aJ [(84,qdr)] [(4,ae (aL 53 4) S4),(15,ae (aL 53 15) S5)] 53 [yF l] []) post:=by kernel_rfl
def qdw:bq:=fun ps R post=> ∃l,ps=[yF l]/\R=[]/\l.length<=1000000/\ ∀o,o=Xv l->post (.sl 0 0 o.length,[(0,⟨0,none,lZ false o⟩)])
theorem Gt {α:Type} (t:α->Bool) (l:List α) {i:Nat} (h:i<l.length):(l.take (i+1)).any t=((l.take i).any t ||t l[i]):=by
 rw[zag h,zcf]
 simp
section
variable {X:XF}
theorem S6:LD X 84 7 (ae (aL 84 7) SU):=LD.idx (H:=[]) (hk:=[]) (by kernel_rfl) (by kernel_rfl) .nil .nil
 (A:=List Hd×List Hd×Int) (B:=Bool) (fun a b k=>qcQ a.1 a.2.1 b a.2.2 k) (fun a=>a.2.1.length) (fun a k b=>(0<=a.2.2/\a.2.2<(a.1.length:Int)/\a.1.length<=1000000/\a.2.1.length<=1000000)/\b=(a.2.1.take k).any (fun y=>y.1==(a.1.getD a.2.2.toNat Im).1))
 (fun a x=>x=(.exit 2,⟨80,[(0,yF a.1),(3,.sl 0 0 a.2.1.length),(4,iD a.2.2),(5,.d (.bool (a.2.1.any (fun y=>y.1==(a.1.getD a.2.2.toNat Im).1))))],[(0,⟨0,none,vQ false a.2.1⟩)]⟩))
 (by
  rintro⟨l,out,i⟩ b k post h0 tA dO ⟨⟨oM,bN,qp,lX⟩,hb⟩ hn ho
  dsimp only at*
  (rw[<-RQ];delta gh Zg wC Gc Dq vT Z64 Bv Dr fN ur Ds Gd zp wE Zn ZA ZO Ov Zt nf qw rM D1 Za Z9 Zj Ou)
  have e1:D.nth (out.map bL) k.toNat=bL out[k.toNat]:=ay _ _ _ dO
  have bg:i.toNat<l.length:=by omega
  have e2:D.nth (l.map bL) i.toNat=bL l[i.toNat]:=ay _ _ _ bg
  have Ez:=Gt (fun y:Hd=>y.1==(l.getD i.toNat Im).1) out dO
  rw[e1,e2]
  simp only[zaa]
  refine bJ tA (ax (fun h=>ak (by omega) (hn _ ⟨⟨oM,bN,qp,lX⟩,?_⟩)) fun h=>ak ⟨h0,tA⟩ (ak dO (ao (uu _) (ak ⟨oM,bN⟩ (ao (uu _) (ak (by omega) (hn _ ⟨⟨oM,bN,qp,lX⟩,?_⟩)))))))
  ·rw[Ez,<-hb,h]
   rfl
  ·rw[Ez,<-hb,h,zbo,dR bg]
   exact MY out[k.toNat].1 l[i.toNat].1)
 (by
  rintro⟨l,out,i⟩ b k post hk ⟨h1,hb⟩ ho
  dsimp only at*
  (rw[<-RQ];delta gh Zg wC Gc Dq vT Z64 Bv Dr fN ur Ds Gd zp wE Zn ZA ZO Ov Zt nf qw rM D1 Za Z9 Zj Ou)
  refine lK (by omega) (ho _ (fun h=>by cases h) ?_)
  rw[hb,zak])
 (by
  rintro s post ⟨l,out,i,b,rfl,⟨hb,h1⟩,hp⟩
  refine⟨(l,out,i),b,rfl,⟨h1,by rw[hb];simp⟩,?_⟩
  rintro x rfl
  exact hp _ rfl)
theorem S7:LD X 84 13 (ae (aL 84 13) SX):=LD.ins (H:=[(14,lV)]) (hk:=[]) (by kernel_rfl) (by kernel_rfl) (.cons uk .nil) .nil
 (A:=List Hd×Int×Nat) (α:=Hd) (fun a o k=>SV a.1 o a.2.2 a.2.1 k) Nz (fun a=>a.2.2) (fun _=>True) (fun a o=>(.exit 4,⟨80,[(0,yF a.1),(3,.sl 0 0 a.2.2),(4,iD a.2.1)],[(0,⟨0,none,vQ false o⟩)]⟩)) (fun _ _ h=>by cases h)
 (by
  rintro⟨l,i,n⟩ o k post _ h0 Hj lX hk hz bZ dZ
  dsimp only at*
  subst Hj
  (rw[<-qcR];delta Gd zp wE Zt nf Ai Zg wC Gc Dq XM Zs fN qw rM D1 Zc XO Z68 Zx kj km r1 oP ze XL Bv vT Dr ur Ds Z65 Za Z9 Zb Zr)
  refine cA (fun hp=> ?_) fun hp=>hz (by omega)
  have fW:k.toNat-1<o.length:=by omega
  have e1:D.nth (o.map bL) k.toNat=bL o[k.toNat]:=ay _ _ _ hk
  have e2:D.nth (o.map bL) (k-1).toNat=bL o[k.toNat-1]:=by rw[show(k-1).toNat=k.toNat-1 by omega];exact ay _ _ _ fW
  have bZ:=bZ hp
  have dZ:=dZ hp
  rw[e1,e2]
  have yN:=kB bL o k.toNat o[k.toNat] o[k.toNat-1]
  have Kj:=Nb o k.toNat o[k.toNat] o[k.toNat-1]
  have e3: ∀z,D.nth ((o.map bL).set k.toNat z) (k-1).toNat=bL o[k.toNat-1]:=fun z=>by
   rw[show(k-1).toNat=k.toNat-1 by omega]
   unfold D.nth
   rw[zac,zaW (by omega)]
   simp[fW]
  generalize o[k.toNat]=x at*
  generalize o[k.toNat-1]=y at*
  have w1:D.aV (D.agg [D.int .i64 (D.ah (D.aq (bL x) 0)),D.int .i64 (D.ah (D.aq (bL x) 1)),D.int .i64 (D.ah (D.aq (bL x) 2)),D.int .i64 (D.ah (D.aq (bL x) 3))]) [D.int .i64 (D.ah (D.aq (bL y) 0)),D.int .i64 (D.ah (D.aq (bL y) 1)),D.int .i64 (D.ah (D.aq (bL y) 2)),D.int .i64 (D.ah (D.aq (bL y) 3))]=bL y:=rfl
  have w2:D.aV (D.agg [D.int .i64 (D.ah (D.aq (bL y) 0)),D.int .i64 (D.ah (D.aq (bL y) 1)),D.int .i64 (D.ah (D.aq (bL y) 2)),D.int .i64 (D.ah (D.aq (bL y) 3))]) [D.int .i64 (D.ah (D.aq (bL x) 0)),D.int .i64 (D.ah (D.aq (bL x) 1)),D.int .i64 (D.ah (D.aq (bL x) 2)),D.int .i64 (D.ah (D.aq (bL x) 3))]=bL x:=rfl
  rw[w1,e3,w2,show(k-1).toNat=k.toNat-1 by omega,yN]
  simp only[SV,zaa,zbg] at dZ⊢
  have yO:0<=k/\k<(o.length:Int):=⟨h0,by omega⟩
  have yP:0<=k-1/\k-1<(o.length:Int):=⟨by omega,by omega⟩
  have hf:(-9223372036854775808:Int)<=k-1/\k-1<=9223372036854775807:=by omega
  refine ak hf (ak yP (ak fW (ao (uu _) (ak yO (ak hk (ao (uu _) ⟨y.1,x.1,rfl,rfl,fun r hr=>ax (fun h=> ?_) fun h=>bZ (by rw[<-h,hr];rfl)⟩))))))
  refine ak hf (ak hf (ak yP (ak fW (ao (uu _) (ak yO (ak hk (ao (uu _) (ak yO (ak hk (ao (uu _) (ak yP (ak fW (ao (uu _) (ak hf ?_))))))))))))))
  exact dZ (by rw[<-h,hr];rfl))
 (by
  rintro s post ⟨l,o,x,n,i,k,rfl,⟨hk,hn,ho⟩,hp⟩
  refine⟨(l,i,n),o,x,k,rfl,hk,trivial,⟨hn.symm,ho⟩,?_⟩
  have:=hp _ rfl
  rw[RR,ln,<-hn] at this
  exact this)
theorem S8:LD X 84 3 (ae (aL 84 3) S0):=LD.idx (H:=[]) (hk:=[(7,ae (aL 84 7) SU),(13,ae (aL 84 13) SX)]) (by kernel_rfl) (by kernel_rfl) .nil (.cons S6 (.cons S7 .nil))
 (A:=List Hd) (B:=List Hd) (fun l o i=>RR l o i) (fun l=>l.length) (fun l i o=>l.length<=1000000/\o=cc Nz (rG (l.take i)))
 (fun l x=>x=(.exit 0,⟨80,[(3,.sl 0 0 (cc Nz (rG l)).length)],[(0,⟨0,none,vQ false (cc Nz (rG l))⟩)]⟩))
 (by
  rintro l o i post h0 bN bg ⟨qp,ho⟩ hn br
  (rw[<-SZ];delta Zt rR ZB Zg wC Gc Dq XM fN Jk Z8A Za Z9 SY Bv vT Z64 Gd zp wE Zn vi qw rM D1 Zj Z8y qi ur gh Z7 Js Z3 nf)
  have lX:o.length<=i.toNat:=by
   rw[ho,mR]
   have:=qg (l.take i.toNat)
   rw[zay] at this
   omega
  have e2:D.nth (l.map bL) i.toNat=bL l[i.toNat]:=ay _ _ _ bg
  have hg:=dR bg Im
  have sX:=Ge bg
  have Jw:(o.any fun y=>y.1==l[i.toNat].1)=((rG (l.take i.toNat)).any fun y=>y.1==l[i.toNat].1):=by rw[ho];exact(cw _).any_eq
  generalize l[i.toNat]=g at hg sX Jw e2
  have t2:D.agg [D.int .i64 (D.ah (D.aq (bL g) 0)),D.int .i64 (D.ah (D.aq (bL g) 1)),D.int .i64 (D.ah (D.aq (bL g) 2)),D.int .i64 (D.ah (D.aq (bL g) 3))]=bL g:=rfl
  rw[zaa]
  refine bJ bN ⟨l,o,i,false,rfl,⟨rfl,h0,bN,qp,by omega⟩,fun h hh=> ?_⟩
  rw[hg] at hh
  rw[e2,t2]
  simp only[zaa,zap,zat,zaF]
  refine ax (fun h1=>ak (by omega) (hn _ ⟨qp,?_⟩)) fun h1=>ak ⟨h0,bN⟩ (ao (uu _) (ao ?_ (ak (by omega) ⟨l,o,g,o.length+1,i,((o.length+1:Nat):Int)-1,?_,⟨by omega,rfl,by omega⟩,fun o' gf=>ak (by omega) (hn _ ⟨qp,?_⟩)⟩)))
  ·rw[sX,K5 (by rw[<-Jw,<-hh,h1]),ho]
  ·rw[zab]
   exact⟨by simp,cj (by omega) (by omega)⟩
  ·rw[cq]
  ·rw[sX,K6 (by rw[<-Jw,<-hh,h1]),yE,<-ho,gf])
 (by
  rintro l o i post hi ⟨qp,ho⟩ br
  (rw[<-SZ];delta Zt rR ZB Zg wC Gc Dq XM fN Jk Z8A Za Z9 SY Bv vT Z64 Gd zp wE Zn vi qw rM D1 Zj Z8y qi ur gh Z7 Js Z3 nf)
  simp only[zaa]
  refine lK (by omega) (br _ (fun h=>by cases h) ?_)
  rw[ho,zak])
 (by
  rintro s post ⟨l,rfl,hs,hp⟩
  refine⟨l,[],rfl,⟨hs,rfl⟩,?_⟩
  rintro x rfl
  exact hp _ rfl)
theorem qgq:FD X 84 qdr:=FD.mk (H:=[]) (hk:=[(3,ae (aL 84 3) S0)]) (by kernel_rfl) .nil (.cons S8 .nil) (by
 intro ps R post hh
 obtain⟨l,rfl,rfl,hs,hp⟩:=hh
 (rw[<-qgn];delta Gd zp wE fN qw qi Z8B Z7 M3 ZQ RH D1 Z8C)
 exact⟨l,rfl,hs,fun o ho=>hp o ho⟩)
theorem Yq:LD X 44 3 (ae (aL 44 3) qds):=LD.idx (H:=[]) (hk:=[]) (by kernel_rfl) (by kernel_rfl) .nil .nil
 (A:=List aj) (B:=List Hd) (fun l o i=>XP l o i) (fun l=>l.length) (fun l i o=>l.length<=1000000/\o=(l.take i).map ll)
 (fun l x=>x=(.exit 0,⟨26,[(3,.sl 0 0 (l.map ll).length)],[(0,⟨0,none,vQ false (l.map ll)⟩)]⟩))
 (by
  rintro l o i post h0 bN bg ⟨qp,ho⟩ hn br
  (rw[<-RS];delta Gd zp wE fN qw rM Zg cP gQ Vh oE oS Jk Zn vi cX gi Za Z9 Zj Z6a vT ep fC ji oG)
  have lX:o.length<=i.toNat:=by rw[ho];simp;omega
  have e2:D.nth (l.map aU) i.toNat=aU l[i.toNat]:=ay _ _ _ bg
  have lL:(l.take (i.toNat+1)).map ll=o++[ll l[i.toNat]]:=by rw[zag bg,zaB,ho];rfl
  generalize l[i.toNat]=g at e2 lL
  have t2:D.agg [D.int .i64 (D.ah (D.aq (aU g) 0)),D.int .i64 (D.ah (D.aq (aU g) 1)),D.int .i64 (D.ah (D.aq (aU g) 4)),D.int .i64 (D.ah (D.aq (aU g) 5))]=bL (ll g):=rfl
  rw[e2,t2,cq]
  simp only[zaa,zap,zat,zaF]
  refine bJ bN (ak ⟨h0,bN⟩ (ao (ft _) (ak ⟨h0,bN⟩ (ao (ft _) (ao ?_ (ak (by omega) ?_))))))
  ·rw[zab]
   exact⟨by simp,cj (by omega) (by omega)⟩
  ·have:=hn (o++[ll g]) ⟨qp,lL.symm⟩
   simp only[XP,zan,zap,zat,zaF] at this
   exact this)
 (by
  rintro l o i post hi ⟨qp,ho⟩ br
  (rw[<-RS];delta Gd zp wE fN qw rM Zg cP gQ Vh oE oS Jk Zn vi cX gi Za Z9 Zj Z6a vT ep fC ji oG)
  simp only[zaa]
  refine lK (by omega) (br _ (fun h=>by cases h) ?_)
  rw[ho,zak])
 (by
  rintro s post ⟨l,rfl,hs,hp⟩
  refine⟨l,[],rfl,⟨hs,rfl⟩,?_⟩
  rintro x rfl
  exact hp _ rfl)
theorem qgr:FD X 44 qdt:=FD.mk (H:=[]) (hk:=[(3,ae (aL 44 3) qds)]) (by kernel_rfl) .nil (.cons Yq .nil) (by
 intro ps R post hh
 obtain⟨l,rfl,rfl,hs,hp⟩:=hh
 (rw[<-qgo];delta Gd zp wE fN qw fu mx Z8B Z7 M3 ZQ RH cP cX gi Z8D)
 exact⟨l,rfl,hs,fun o ho=>hp o ho⟩)
theorem S9:LD X 53 8 (ae (aL 53 8) S1):=LD.idx (H:=[]) (hk:=[]) (by kernel_rfl) (by kernel_rfl) .nil .nil
 (A:=List Hd×List Hd×Int) (B:=Bool) (fun a b k=>qdu a.1 a.2.1 a.2.2 b k) (fun a=>a.2.1.length) (fun a k b=>(0<=a.2.2/\a.2.2<(a.1.length:Int)/\a.1.length<=1000000/\a.2.1.length<=1000000)/\b=(a.2.1.take k).any (fun y=>y.2==(a.1.getD a.2.2.toNat Im).1))
 (fun a x=>x=(.exit 2,⟨63,[(3,.sl 0 0 a.1.length),(4,.sl 1 0 a.2.1.length),(5,iD a.2.2),(6,.d (.bool (a.2.1.any (fun y=>y.2==(a.1.getD a.2.2.toNat Im).1))))],[(0,⟨0,none,vQ false a.1⟩),(1,⟨0,none,vQ false a.2.1⟩)]⟩))
 (by
  rintro⟨l,out,i⟩ b k post h0 tA dO ⟨⟨oM,bN,qp,lX⟩,hb⟩ hn ho
  dsimp only at*
  (rw[<-S2];delta gh Zg wC Gc Dq Bv vT Dr fN ur Ds Gd zp Vn Zn ZL ZO Zt D6 Vo qw rM Za Z9 Zj Ou)
  have e1:D.nth (out.map bL) k.toNat=bL out[k.toNat]:=ay _ _ _ dO
  have bg:i.toNat<l.length:=by omega
  have e2:D.nth (l.map bL) i.toNat=bL l[i.toNat]:=ay _ _ _ bg
  have Ez:=Gt (fun y:Hd=>y.2==(l.getD i.toNat Im).1) out dO
  rw[e1,e2]
  simp only[zaa]
  refine bJ tA (ax (fun h=>ak (by omega) (hn _ ⟨⟨oM,bN,qp,lX⟩,?_⟩)) fun h=>ak ⟨h0,tA⟩ (ak dO (ao (uu _) (ak ⟨oM,bN⟩ (ak bg (ao (uu _) (ak (by omega) (hn _ ⟨⟨oM,bN,qp,lX⟩,?_⟩))))))))
  ·rw[Ez,<-hb,h]
   rfl
  ·rw[Ez,<-hb,h,zbo,dR bg]
   exact MY out[k.toNat].2 l[i.toNat].1)
 (by
  rintro⟨l,out,i⟩ b k post hk ⟨h1,hb⟩ ho
  dsimp only at*
  (rw[<-S2];delta gh Zg wC Gc Dq Bv vT Dr fN ur Ds Gd zp Vn Zn ZL ZO Zt D6 Vo qw rM Za Z9 Zj Ou)
  refine lK (by omega) (ho _ (fun h=>by cases h) ?_)
  rw[hb,zak])
 (by
  rintro s post ⟨l,out,i,b,rfl,⟨hb,h1⟩,hp⟩
  refine⟨(l,out,i),b,rfl,⟨h1,by rw[hb];simp⟩,?_⟩
  rintro x rfl
  exact hp _ rfl)
theorem Ta {l:List Hd} {i:Nat} (h:i<l.length):KV (l.take (i+1)) []=Rr (KV (l.take i) []) l[i]:=by
 rw[zag h]
 unfold KV
 rw[za1]
 rfl
theorem Tb:LD X 53 4 (ae (aL 53 4) S4):=LD.idx (H:=[]) (hk:=[(8,ae (aL 53 8) S1)]) (by kernel_rfl) (by kernel_rfl) .nil (.cons S9 .nil)
 (A:=List Hd) (B:=List Hd) (fun m on i=>Yo m on i) (fun m=>m.length) (fun m i on=>m.length<=1000000/\on=KV (m.take i) [])
 (fun m x=>x=(.exit 0,⟨63,[(4,.sl 0 0 (KV m []).length)],[(0,⟨0,none,vQ false (KV m [])⟩)]⟩))
 (by
  rintro m on i post h0 bN bg ⟨qp,ho⟩ hn br
  (rw[<-S3];delta Gd zp wE fN qw Zg wC Gc Dq XM Jk Z8A Zn Zo Za Z9 Zj SY vT Bv Dr ur Ds jY qi gh Vn Z7 rB Z3 Zt D6 Vo rM Ou)
  have lX:on.length<=i.toNat:=by
   rw[ho]
   have:=sU (m.take i.toNat) []
   rw[zay] at this
   simp at this
   omega
  have e2:D.nth (m.map bL) i.toNat=bL m[i.toNat]:=ay _ _ _ bg
  have hg:=dR bg Im
  have sX:=Ta bg
  generalize m[i.toNat]=g at hg sX e2
  have t2:D.agg [D.int .i64 (D.ah (D.aq (bL g) 0)),D.int .i64 (D.ah (D.aq (bL g) 1)),D.int .i64 (D.ah (D.aq (bL g) 2)),D.int .i64 (D.ah (D.aq (bL g) 3))]=bL g:=rfl
  refine bJ bN ⟨m,on,i,false,rfl,⟨rfl,h0,bN,qp,by omega⟩,fun h hh=> ?_⟩
  rw[hg] at hh
  rw[e2,t2,cq]
  simp only[zaa,zap,zat,zaF]
  refine ax (fun h1=>ak ⟨h0,bN⟩ (ak bg (ao (uu _) (ao ?_ (ak (by omega) ?_))))) fun h1=>ak (by omega) (hn _ ⟨qp,?_⟩)
  ·rw[zab]
   exact⟨by simp,cj (by omega) (by omega)⟩
  ·have hf:(on.any fun y=>y.2==g.1)=false:=by rw[<-hh];simpa using h1
   have:=hn (on++[g]) ⟨qp,by rw[sX,<-ho,Rr,zam (by rw[hf];simp)]⟩
   simp only[Yo,zan,zap,zat,zaF] at this
   exact this
  ·have hf:(on.any fun y=>y.2==g.1)=true:=by rw[<-hh];simpa using h1
   rw[sX,<-ho,Rr,zao hf])
 (by
  rintro m on i post hi ⟨qp,ho⟩ br
  (rw[<-S3];delta Gd zp wE fN qw Zg wC Gc Dq XM Jk Z8A Zn Zo Za Z9 Zj SY vT Bv Dr ur Ds jY qi gh Vn Z7 rB Z3 Zt D6 Vo rM Ou)
  refine lK (by omega) (br _ (fun h=>by cases h) ?_)
  rw[ho,zak])
 (by
  rintro s post ⟨m,rfl,hs,hp⟩
  refine⟨m,[],rfl,⟨hs,rfl⟩,?_⟩
  rintro x rfl
  exact hp _ rfl)
theorem Tc:LD X 53 15 (ae (aL 53 15) S5):=LD.par (H:=[]) (hk:=[]) (by kernel_rfl) (by kernel_rfl) .nil .nil
 (A:=List Hd) (B:=Nat×List az×Int) (fun on b=>Yp on b.2.1 b.2.2) (fun on b=>on.length<=1000000/\b.1<=on.length/\b.2.2=(b.1:Int)-1/\b.2.1=((on.drop b.1).map (·.1)).reverse) (fun _ b=>b.1)
 (fun on x=>x=(.exit 4,⟨63,[(8,.sl 0 0 ((on.map (·.1)).reverse).length)],[(0,⟨0,none,lZ false ((on.map (·.1)).reverse)⟩)]⟩))
 (by
  rintro on ⟨k,out,i⟩ ⟨hm,hk,hi,ho⟩
  dsimp only at*
  (rw[<-qdv];delta eK oH Nd eu zq Gd zp Zs Z7Q fN qw Za Z9 Zb Zg wC Gc Dq XL Bv vT Dr ur Ds Z2)
  cases k with
  |zero=>
   refine lK (by omega) ?_
   rw[ho,zcm]
   rfl
  |succ k=>
   have bG:k<on.length:=by omega
   have lX:out.length<=on.length:=by rw[ho];simp
   have hik:i.toNat=k:=by omega
   have e1:D.nth (on.map bL) i.toNat=bL on[k]:=by rw[hik];exact ay _ _ _ bG
   have hd:on.drop k=on[k]::on.drop (k+1):=za2 bG
   generalize on[k]=h at e1 hd
   have t2:D.agg [D.int .i64 (D.ah (D.aq (bL h) 0)),D.int .i64 (D.ah (D.aq (bL h) 1))]=bh h.1:=rfl
   rw[e1,t2,cq]
   simp only[zaa,zap,zat,zaF]
   refine bJ (by omega) (ak ⟨by omega,by omega⟩ (ak (by omega) (ao (uu _) (ao ?_ (ak (by omega) ?_)))))
   ·rw[zab]
    exact⟨by simp,cj (by omega) (by omega)⟩
   ·refine⟨k,zcx k,(k,out++[h.1],i-1),?_,⟨hm,by show k<=_;omega,by show i-1=(k:Int)-1;omega,?_⟩,rfl⟩
    ·simp only[Yp,zan,zap,zat,zaF]
    ·show out++[h.1]=_
     rw[hd,ho]
     simp)
 (by
  rintro s post ⟨on,i,rfl,⟨hi,hm⟩,hp⟩
  refine⟨on,(on.length,[],i),rfl,⟨hm,zaj _,hi,by simp⟩,?_⟩
  rintro x rfl
  exact hp _ rfl)
theorem NA (l:List Hd):cc Nz (rG l)=(vM l).reverse:=by
 have hp:(cc Nz (rG l)).reverse.Perm (rG l):=(zcU _).trans (cw _)
 have hw:(cc Nz (rG l)).Pairwise (fun x y=>lG x.1 y.1=false):=by
  have lin:G6 (fun a b:az=>lG b a):=⟨fun x=>mP.Kt x,fun x y z h1 h2=>mP.tr z y x h2 h1,fun x y h1 h2=>(mP.q8 y x h1 h2).symm⟩
  exact tZ lin (fun h:Hd=>h.1) (rG l)
 have e:=KU hp (by rw[zcD];exact hw)
 rw[<-e,List.reverse_reverse]
theorem qgs:FD X 53 qdw:=FD.mk (H:=[(84,qdr)]) (hk:=[(4,ae (aL 53 4) S4),(15,ae (aL 53 15) S5)]) (by kernel_rfl) (.cons qgq .nil) (.cons Tb (.cons Tc .nil)) (by
 intro ps R post hh
 obtain⟨l,rfl,rfl,hs,hp⟩:=hh
 (rw[<-qgp];delta eK oH Nd eu zq Zt Z7U vU Gd zp zt fN qw Za ur Z9 Z8B Z7 ZN rM Z8I qi Zx Z8H)
 refine⟨l,rfl,rfl,hs,fun o ho=>⟨o,rfl,?_,fun o2 ho2=> ?_⟩⟩
 ·rw[ho,mR]
  have:=qg l
  omega
 ·have hl:o2.length<=1000000:=by
   have h1:=sU o []
   have h2:o.length<=l.length:=by rw[ho,mR];exact qg l
   rw[ho2]
   simp at h1
   omega
  refine ak (by omega) ⟨o2,_,rfl,⟨rfl,hl⟩,fun o3 ho3=>hp o3 ?_⟩
  rw[ho3,ho2,ho,NA]
  rfl)
end
abbrev bxS (a:az):Obj:= .box 30 [iD a.1,iD a.2]
def Z8J (i:Int):List (Nat×P):=[(10,Zs i)]
def wK:Nat×En:=(0,zo)
def Z8M:List (Nat×En):=[wK]
def Z8P (post:P×List (Nat×En)->Prop):Prop:=post (P.cV [P.d (D.agg [Z7,Z7]),P.d Z3,P.d (D.int .i64 (11:Int))],[])
def Z8O (ar:List Hd) (aI:az) (post:P×List (Nat×En)->Prop):Prop:= ∀(e:Int) (r:az) (ev:Bool),oe ar aI=(e,r,ev)->post (P.cV (r1 r::gh ev::Zv e),[])
def qdx:S->K (PX×S):=fun st post=> ∃l m x,st=er1 l m x (fun _=>none) 0 0/\(m.length<=1000000/\(m.map (·.1)).Nodup)/\ ∀f c,(∀y:az,f (bh y)=(m.find? (fun h=>h.1==y)).map bL)->post (.exit 0,⟨59,[(0,vR l),(1,vS l),(5,.ref 0 0 0),(6,.ref 1 0 0),(10,.mp 2 0)],[(0,⟨0,none,bxS x⟩),(1,⟨0,none,.box 30 [iD 0,iD 0]⟩),(2,⟨0,none,mpS f c⟩)]⟩)
abbrev er2 (x:az) (ev:Bool) (f:D->Option D) (c n i:Int):S:=⟨59,[(5,.ref 0 0 0),(6,.ref 1 0 0),(7,.d (.bool ev)),(10,.mp 2 0),(35,iD n),(36,iD i)],[(0,⟨0,none,bxS x⟩),(1,⟨0,none,.box 30 [iD 0,iD 0]⟩),(2,⟨0,none,mpS f c⟩)]⟩
def Z8Q:List D:=[Z7,Z7,Z7,Z7]
def Z8R (f:D->Option D) (x:az):D:=cD (f (D.agg [km x,kj x])) (D.agg Z8Q)
theorem Te (x:az) (ev:Bool) (f:D->Option D) (c n i:Int) (post:PX×S->Prop):(bif ZI i n then bif cC PR (132:TypeId) (Z8R f x) then bif !Option.isSome (f (D.agg [km x,kj x])) then post (PX.ret,S.mk 59 [(6,bT),(7,P.d Z3),(8,P.d (D.int .i64 (111:Int)))] Z8M) else bif D.ah (D.aq (Z8R f x) 2)==(0:Int)&&(D.ah (D.aq (Z8R f x) 3)==(0:Int)&&true) then post (PX.ret,S.mk 59 ((6,bT)::vo ev::Jr) (Z87 x)) else bif Zj i then post (PX.normal,S.mk 59 [yH,RO,(7,P.d (D.bool (jY ev))),RN,(35,P.d (Zt n)),(36,P.d (Zn i))] [(0,En.mk 0 none (Obj.box (30:TypeId) [P.d (D.int .i64 (D.ah (D.aq (Z8R f x) 2))),P.d (D.int .i64 (D.ah (D.aq (Z8R f x) 3)))])),(1,zo),(2,Ag f c)]) else False else False else post (PX.exit 2,S.mk 59 [(6,bT),vo ev] Z8M))=(aD [] [] 37 10 (er2 x ev f c n i)) post:=by kernel_rfl
def qdy:S->K (PX×S):=fun st post=> ∃l x f c n,st=er2 x true f c n 0/\(n=(l.length:Int)+1/\l.length<=1000000/\ ∀y:az,f (bh y)=(l.find? (fun h=>h.1==y)).map bL)/\(∀e r ev,oe l x=(e,r,ev)->post (.ret,⟨59,[(6,.ref 0 0 0),(7,.d (.bool ev)),(8,iD e)],[(0,⟨0,none,bxS r⟩)]⟩))/\(oe l x=(11,(0,0),false)-> ∀ev:Bool,post (.exit 2,⟨59,[(6,.ref 0 0 0),(7,.d (.bool ev))],[(0,⟨0,none,.box 30 [iD 0,iD 0]⟩)]⟩))
def Tf (bY:List Hd):Prop:=qi bY/\List.Nodup (List.map (fun(x:Hd)=>Prod.fst x) bY)
def Z8S (l:List Hd) (m:List Hd) (x:az):S:=S.mk 59 [K4 l,K3 l,yH,RO,RN,(19,P.sl 3 0 (fN m)),(20,P.d (D.int .i64 (ur m))),(21,P.d Z7)] [Hb x,(1,zo),(2,M9),(3,RL m)]
theorem qiu (l:List Hd) (x:az) (post:P×List (Nat×En)->Prop):(∃(ar:List Hd),Z6h l=Z6h ar/\Zx/\qi ar/\ ∀(m:List Hd),m=vM ar-> ∃(iF:List Hd) (bY:List Hd) (aI:az),Z8S l m x=Z8S iF bY aI/\Tf bY/\ ∀(f:D->Option D) (c:Int),(∀(y:az),f (bh y)=Option.map bL (List.find? (fun(h:Hd)=>Prod.fst h==y) bY))->bif decide (Z9<=Vg iF+(1:Int)/\Vg iF+(1:Int)<=Za) then∃(l:List Hd) (x:az) (dJ:D->Option D) (dS:Int) (n:Int),S.mk 59 [yH,RO,(7,ZO),RN,(35,P.d (D.int .i64 (Vg iF+(1:Int)))),(36,P.d Z7)] (Z5W aI f c)=S.mk 59 [yH,RO,(7,ZO),RN,(35,P.d (Zt n)),(36,P.d Z7)] (Z5W x dJ dS)/\(n=ur l+(1:Int)/\qi l/\ ∀(y:az),dJ (bh y)=Option.rec ((fun(_:Unit)=>none) ()) (fun(val:Hd)=>(fun(val:Hd)=>(fun(x:Hd)=>some (bL x)) val) val) (List.find? (fun(h:Hd)=>Prod.fst h==y) l))/\Z8O l x post/\(oe l x=((11:Int),((0:Int),(0:Int)),false)-> ∀(_:Bool),Z8P post) else False)=(aJ [(68,yG)] [(4,ae (aL 37 4) qdx),(10,ae (aL 37 10) qdy)] 37 [vR l,vS l,.d (bh x)] []) post:=by kernel_rfl
def hEr:bq:=fun ps R post=> ∃l x,ps=[vR l,vS l,.d (bh x)]/\R=[]/\(l.length<=1000000/\(l.map (·.1)).Nodup)/\ ∀e r ev,oe l x=(e,r,ev)->post (.cV [.d (bh r),.d (.bool ev),iD e],[])
theorem JA {l:List Hd} {n:Nat} {x:az} {e:Bool} (h:l.find? (fun h=>h.1==x)=none):pP l (n+1) x e=(111,(0,0),false):=by
 unfold pP
 rw[h]
 rfl
theorem NB {l:List Hd} {n:Nat} {x:az} {e:Bool} {g:Hd} (h:l.find? (fun h=>h.1==x)=some g) (hu:g.2=(0,0)):pP l (n+1) x e=(0,x,e):=by
 unfold pP
 rw[h]
 show(if g.2=(0,0) then _ else _)=_
 rw[zao hu]
theorem JB {l:List Hd} {n:Nat} {x:az} {e:Bool} {g:Hd} (h:l.find? (fun h=>h.1==x)=some g) (hu:g.2≠(0,0)):pP l (n+1) x e=pP l n g.2 (!e):=by
 rw[show pP l (n+1) x e=(match(l.find? fun h=>h.1==x).map (·.2) with |none=>(111,(0,0),false)|some u=>if u=(0,0) then(0,x,e) else pP l n u (!e)) from rfl,h]
 show(if g.2=(0,0) then _ else _)=_
 rw[zam hu]
section
variable {X:XF}
end
theorem Yr {a b:az} (h:bh a=bh b):a=b:=by
 obtain⟨a1,a2⟩:=a
 obtain⟨b1,b2⟩:=b
 unfold bh at h
 injection h with h
 injection h with h1 h2
 injection h2 with h2 h3
 injection h1 with _ h1
 injection h2 with _ h2
 simp at h1 h2
 rw[h1,h2]
theorem Tj (a b:az):D.nZ (bh a) (bh b)=(a==b):=by
 rw[zaE,D.gU,zaS]
 exact⟨Yr,fun h=>by rw[h]⟩
section
variable {X:XF}
theorem Ys:LD X 37 4 (ae (aL 37 4) qdx):=LD.idx (H:=[]) (hk:=[]) (by kernel_rfl) (by kernel_rfl) .nil .nil
 (A:=List Hd×List Hd×az) (B:=(D->Option D)×Int) (fun a b i=>er1 a.1 a.2.1 a.2.2 b.1 b.2 i) (fun a=>a.2.1.length) (fun a i b=>(a.2.1.length<=1000000/\(a.2.1.map (·.1)).Nodup)/\ ∀y:az,b.1 (bh y)=((a.2.1.take i).find? (fun h=>h.1==y)).map bL)
 (fun a y=> ∃f c,(∀z:az,f (bh z)=(a.2.1.find? (fun h=>h.1==z)).map bL)/\y=(.exit 0,⟨59,[(0,vR a.1),(1,vS a.1),(5,.ref 0 0 0),(6,.ref 1 0 0),(10,.mp 2 0)],[(0,⟨0,none,bxS a.2.2⟩),(1,⟨0,none,.box 30 [iD 0,iD 0]⟩),(2,⟨0,none,mpS f c⟩)]⟩))
 (by
  rintro⟨l,m,x⟩ ⟨f,c⟩ i post h0 bN bg ⟨⟨hm,ky⟩,hf⟩ hn ho
  dsimp only at*
  (rw[<-RP];delta Ag Z7 qu zo kj km Ah Hb Z5W RL Zg wC Gc Dq XL Z5T Zn fN ur RN iC RO bT yH qh K3 nV K4 Za Z9 Zj vT Dr Ds Ou)
  have e1:D.nth (m.map bL) i.toNat=bL m[i.toNat]:=ay _ _ _ bg
  have lL:m.take (i.toNat+1)=m.take i.toNat++[m[i.toNat]]:=zag bg
  have hnk: ∀z∈m.take i.toNat,z.1≠m[i.toNat].1:=by
   intro z hz he
   have:(m.take (i.toNat+1)).map (·.1)|>.Nodup:=(ky.sublist ((zcV _ _).map _))
   rw[lL,zaB,za0] at this
   exact this.2.2 z.1 (za6 hz) _ (by simp) he
  rw[e1]
  generalize m[i.toNat]=g at lL hnk
  have t1:D.agg [D.int .i64 (D.ah (D.aq (bL g) 0)),D.int .i64 (D.ah (D.aq (bL g) 1))]=bh g.1:=rfl
  have t2:D.agg [D.int .i64 (D.ah (D.aq (bL g) 0)),D.int .i64 (D.ah (D.aq (bL g) 1)),D.int .i64 (D.ah (D.aq (bL g) 2)),D.int .i64 (D.ah (D.aq (bL g) 3))]=bL g:=rfl
  refine bJ bN (ak ⟨h0,bN⟩ (ak (by simpa using bg) (ao (XQ _) (ak (by omega) ?_))))
  refine hn (_,_) ⟨⟨hm,ky⟩,fun y=> ?_⟩
  show(bif D.nZ (bh g.1) (bh y) then some (bL g) else f (bh y))=_
  rw[Tj,hf y,lL,List.find?_append]
  by_cases hy:g.1=y
  ·subst hy
   rw[show(g.1==g.1)=true by simp,zbS]
   rw[show(m.take i.toNat).find? (fun h=>h.1==g.1)=none from by
    rw[zck]
    intro z hz
    simpa using hnk z hz]
   simp
  ·rw[show(g.1==y)=false by simpa using hy,zbn]
   simp[hy])
 (by
  rintro⟨l,m,x⟩ ⟨f,c⟩ i post hi ⟨⟨hm,ky⟩,hf⟩ ho
  dsimp only at*
  (rw[<-RP];delta Ag Z7 qu zo kj km Ah Hb Z5W RL Zg wC Gc Dq XL Z5T Zn fN ur RN iC RO bT yH qh K3 nV K4 Za Z9 Zj vT Dr Ds Ou)
  refine lK (by omega) (ho _ (fun h=>by cases h) ⟨f,c,?_,rfl⟩)
  rw[zak] at hf
  exact hf)
 (by
  rintro s post ⟨l,m,x,rfl,h1,hp⟩
  refine⟨(l,m,x),(fun _=>none,0),rfl,⟨h1,fun y=>rfl⟩,?_⟩
  rintro y ⟨f,c,h3,rfl⟩
  exact hp f c h3)
theorem Yt:LD X 37 10 (ae (aL 37 10) qdy):=LD.idx (H:=[]) (hk:=[]) (by kernel_rfl) (by kernel_rfl) .nil .nil
 (A:=List Hd×az×(D->Option D)×Int×Int) (B:=az×Bool) (fun a b i=>er2 b.1 b.2 a.2.2.1 a.2.2.2.1 a.2.2.2.2 i) (fun a=>a.1.length+1)
 (fun a n b=>(a.2.2.2.2=(a.1.length:Int)+1/\a.1.length<=1000000/\ ∀y:az,a.2.2.1 (bh y)=(a.1.find? (fun h=>h.1==y)).map bL)/\n<=a.1.length+1/\oe a.1 a.2.1=pP a.1 (a.1.length+1-n) b.1 b.2)
 (fun a y=>(∃e r ev,oe a.1 a.2.1=(e,r,ev)/\y=(.ret,⟨59,[(6,.ref 0 0 0),(7,.d (.bool ev)),(8,iD e)],[(0,⟨0,none,bxS r⟩)]⟩))\/(oe a.1 a.2.1=(11,(0,0),false)/\ ∃ev:Bool,y=(.exit 2,⟨59,[(6,.ref 0 0 0),(7,.d (.bool ev))],[(0,⟨0,none,.box 30 [iD 0,iD 0]⟩)]⟩)))
 (by
  rintro⟨l,x0,f,c,N⟩ ⟨x,ev⟩ n post h0 rZ Pf ⟨⟨hN,hm,hf⟩,hn1,hr⟩ hn ho
  dsimp only at*
  (rw[<-Te];delta Ag Z7 qu zo Zn Zt RN jY iC RO bT yH Za Z9 Zj kj km Ah Hb Z87 Jr gh vo wK Z8M Z3 Z8Q Z8R ZI)
  have hfu:l.length+1-n.toNat=(l.length-n.toNat)+1:=by omega
  rw[hfu] at hr
  rw[show f (D.agg [D.int .i64 x.1,D.int .i64 x.2])=(l.find? (fun h=>h.1==x)).map bL from hf x]
  refine bJ (by omega) ?_
  cases hg:l.find? (fun h=>h.1==x) with
  |none=>
   have z0:cD ((none:Option Hd).map bL) (D.agg [D.int .i64 0,D.int .i64 0,D.int .i64 0,D.int .i64 0])=bL Im:=rfl
   rw[z0]
   refine ao (XQ _) (ax (fun _=>ho _ (fun h=>by cases h) (.inl ⟨111,(0,0),false,?_,rfl⟩)) fun h=>by simp at h)
   rw[hr,JA hg]
  |some g=>
   have z0:cD ((some g).map bL) (D.agg [D.int .i64 0,D.int .i64 0,D.int .i64 0,D.int .i64 0])=bL g:=rfl
   rw[z0,show(D.ah (D.aq (bL g) 2)==0&&(D.ah (D.aq (bL g) 3)==0&&true))=(g.2==(0,0)) from MY g.2 (0,0)]
   refine ao (XQ _) (ax (fun h=>by simp at h) fun _=>ax (fun hu=>ho _ (fun h=>by cases h) (.inl ⟨0,x,ev,?_,rfl⟩)) fun hu=>ak (by omega) (hn (g.2,!ev) ⟨⟨hN,hm,hf⟩,by omega,?_⟩))
   ·rw[hr,NB hg (by simpa using hu)]
   ·rw[hr,JB hg (by simpa using hu)]
    congr 1
    omega)
 (by
  rintro⟨l,x0,f,c,N⟩ ⟨x,ev⟩ n post rZ ⟨⟨hN,hm,hf⟩,hn1,hr⟩ ho
  dsimp only at*
  (rw[<-Te];delta Ag Z7 qu zo Zn Zt RN jY iC RO bT yH Za Z9 Zj kj km Ah Hb Z87 Jr gh vo wK Z8M Z3 Z8Q Z8R ZI)
  refine lK (by omega) (ho _ (fun h=>by cases h) (.inr ⟨?_,ev,rfl⟩))
  rw[hr,Nat.sub_self]
  rfl)
 (by
  rintro s post ⟨l,x,f,c,n,rfl,h1,h2,h3⟩
  refine⟨(l,x,f,c,n),(x,true),rfl,⟨h1,by omega,rfl⟩,?_⟩
  rintro y (⟨e,r,ev,h4,rfl⟩| ⟨h4,ev,rfl⟩)
  ·exact h2 e r ev h4
  ·exact h3 h4 ev)
theorem qiv:FD X 37 hEr:=FD.mk (H:=[(68,yG)]) (hk:=[(4,ae (aL 37 4) qdx),(10,ae (aL 37 10) qdy)]) (by kernel_rfl) (.cons K7 .nil) (.cons Ys (.cons Yt .nil)) (by
 intro ps R post hh
 obtain⟨l,x,rfl,rfl,⟨hm,ky⟩,hp⟩:=hh
 (rw[<-qiu];delta Z3 Z7 Z8P Zt Zv gh kj km r1 Z8O fN ur Ag qu zo Ah Hb Z5W RN ZO iC RO bT yH Za qh nV Vg Z9 qi Tf RL M9 K3 K4 Z8S Zx Z6h)
 have Gf:(vM l).Perm l:=by
  unfold vM
  rw[Xu ky]
  exact cw _
 simp only[zaa]
 refine⟨l,rfl,rfl,hm,fun m U4=>⟨l,m,x,rfl,⟨by rw[U4,Gf.length_eq];exact hm,by rw[U4];exact(Gf.map (·.1)).nodup_iff.2 ky⟩,fun f c hf=>ak (by omega) ⟨l,x,f,c,_,rfl,⟨by omega,hm,fun y=> ?_⟩,fun e r ev h=>hp e r ev h,fun h ev=>hp _ _ _ h⟩⟩⟩
 rw[hf y,U4,M7 ky Gf y]
 cases l.find? (fun h:Hd=>h.1==y)<;>rfl)
end
abbrev arI (z:Bool) (v:List Int):Obj:= .arr 3 z (aZ v)
abbrev hvH (m:List aj) (v:List Int) (i:Int):S:=⟨33,[(3,.sl 0 0 16),(8,.sl 1 0 m.length),(9,iD (m.length:Int)),(10,iD i)],[(0,⟨0,none,arI false v⟩),(1,⟨0,none,oR false m⟩)]⟩
def BE (m:List aj):Nat×En:=(1,r3 m)
def BF (m:List aj):P:=P.d (D.int .i64 (og m))
def tE (m:List aj):P:=P.sl 1 0 (fu m)
def Z8V:Nat×P:=(3,P.sl 0 0 16)
def Gu (m:List aj) (i:Int):Int:=D.ah (D.aq (gQ m i) 1)-(1:Int)
theorem qa1 (m:List aj) (v:List Int) (i:Int) (post:PX×S->Prop):(bif Jj i m then bif vO i m then bif tC i m then bif ep m i then bif decide (Z9<=Gu m i/\Gu m i<=Za) then bif decide (Z9<=Gu m i/\Gu m i<=Za) then bif decide ((0:Int)<=Gu m i/\Gu m i<(16:Int)) then bif decide (Int.toNat (Gu m i)<List.length (aZ v)) then bif cC PR (3:TypeId) (D.nth (aZ v) (Int.toNat (Gu m i))) then bif decide ((0:Int)<=Gu m i/\Gu m i<(16:Int)) then bif decide (Int.toNat (Gu m i)<List.length (aZ v)) then bif cC PR (3:TypeId) (D.nth (aZ v) (Int.toNat (Gu m i))) then bif Zj i then post (PX.normal,S.mk 33 [Z8V,(8,tE m),(9,BF m),(10,P.d (Zn i))] [(0,En.mk 0 none (Obj.arr (3:TypeId) false (List.set (aZ v) (Int.toNat (Gu m i)) (D.aV (D.int .i64 (D.ah (D.nth (aZ v) (Int.toNat (Gu m i))))) [D.int .i64 (max (D.ah (D.nth (aZ v) (Int.toNat (Gu m i)))) (Ae m i))])))),BE m]) else False else False else False else False else False else False else False else False else False else False else False else False else post (PX.exit 0,S.mk 33 [Z8V] (ZD v)))=(aD [] [] 27 3 (hvH m v i)) post:=by kernel_rfl
def mj (m:List aj):Prop:=m.length<=1000000/\ ∀g∈m,1<=g.s.2/\g.s.2<=16/\1<=g.s.1/\g.s.1<=1099511627776/\1<=g.n/\g.n<=1099511627776
def gHv:S->K (PX×S):=fun st post=> ∃m,st=hvH m (List.replicate 16 0) 0/\mj m/\ ∀v,v=rJ m->post (.exit 0,⟨33,[(3,.sl 0 0 16)],[(0,⟨0,none,arI false v⟩)]⟩)
def DA:bq:=fun ps R post=> ∃v,ps=[vD v]/\R=[]/\v.length<=1000000/\ ∀w,w=bp v->post (vD w,[])
def Z90 (m:List aj):S:=S.mk 33 [Z8V,(8,tE m),(9,BF m),(10,P.d Z7)] [(0,En.mk 0 none (Obj.arr (3:TypeId) false (Z7::Z7::Z7::Z7::Z7::Z7::Z7::Z7::Z7::Z7::Z7::Z7::Z8Q))),BE m]
def D7 (l:List aj) (ar:List aj):Prop:=[cX l]=[cX ar]
theorem qiw (l:List aj) (post:P×List (Nat×En)->Prop):(∃(ar:List aj),D7 l ar/\Zx/\nT ar/\ ∀(m:List aj),m=aH ar-> ∃(bY:List aj),Z90 m=Z90 bY/\mj bY/\ ∀(v:List Int),v=rJ bY-> ∃(de:List Int),[P.d (D.sl 1 (List.take 16 (aZ v)))]=ZW de/\Zx/\G9 de/\ ∀(w:List Int),w=bp de->post (Zk w,[]))=(aJ [(30,vN),(45,DA)] [(3,ae (aL 27 3) gHv)] 27 [bP l] []) post:=by kernel_rfl
def hHv:bq:=fun ps R post=> ∃l,ps=[bP l]/\R=[]/\nT l/\ ∀v,v=oD (aH l)->post (vD v,[])
abbrev hnH (r:Int) (v:List Int) (m:List aj) (t i:Int):S:=⟨50,[(1,iD r),(4,.ref 0 0 0),(6,iD t),(7,vD v),(21,.sl 3 0 m.length),(22,iD (m.length:Int)),(23,iD i)],[(0,⟨0,none,.box 34 [iD 0,iD 0,iD 0,.sl 1 0 0,iD 0,iD 0,.sl 2 0 0]⟩),(1,⟨0,none,arI false []⟩),(2,⟨0,none,.arr 54 false []⟩),(3,⟨0,none,oR false m⟩)]⟩
def Z92:Nat×En:=(2,En.mk 0 none (Obj.arr (54:TypeId) false []))
def Z91:Nat×En:=(0,En.mk 0 none (Obj.box (34:TypeId) [P.d Z7,P.d Z7,P.d Z7,zt,P.d Z7,P.d Z7,P.sl 2 0 0]))
def Z94:List (Nat×En):=[Z91,(1,ZT),Z92]
def Z93 (m:List aj):List (Nat×En):=[Z91,(1,ZT),Z92,(3,r3 m)]
theorem qa2 (r:Int) (v:List Int) (m:List aj) (t i:Int) (post:PX×S->Prop):(bif Jj i m then bif vO i m then bif tC i m then bif ep m i then bif Zj i then post (PX.normal,S.mk 50 [ZF r,Al,(6,P.d (D.int .i64 (max t (D.ah (D.aq (gQ m i) 0))))),(7,Zk v),(21,P.sl 3 0 (fu m)),(22,BF m),(23,P.d (Zn i))] (Z93 m)) else False else False else False else False else post (PX.exit 0,S.mk 50 [ZF r,Al,ZK t,(7,Zk v)] Z94))=(aD [] [] 12 5 (hnH r v m t i)) post:=by kernel_rfl
def gHn:S->K (PX×S):=fun st post=> ∃r v m,st=hnH r v m 0 0/\mj m/\ ∀t,t=mQ m->post (.exit 0,⟨50,[(1,iD r),(4,.ref 0 0 0),(6,iD t),(7,vD v)],[(0,⟨0,none,.box 34 [iD 0,iD 0,iD 0,.sl 1 0 0,iD 0,iD 0,.sl 2 0 0]⟩),(1,⟨0,none,arI false []⟩),(2,⟨0,none,.arr 54 false []⟩)]⟩)
def Z96:List D:=[Z7,Z7,D.sl 18 []]
def Z9b (t:Int) (post:P×List (Nat×En)->Prop) (cz:Int) (n:Int) (de:List Int):Prop:=bif Zj t then post (P.cV (P.d (D.agg (Zn t::Zt cz::Zn n::D.sl 1 (aZ de)::Z96))::qu),[]) else False
def Lr:D:=D.sl 1 []
def Z97:P:=P.d (D.agg (Z7::Z7::Z7::Lr::Z96))
def Z9a (post:P×List (Nat×En)->Prop):Prop:=post (P.cV [Z97,P.d WV],[])
def Z99 (r:Int) (v:List Int) (m:List aj):S:=S.mk 50 [ZF r,Al,(6,P.d Z7),(7,Zk v),(21,P.sl 3 0 (fu m)),(22,BF m),(23,P.d Z7)] (Z93 m)
def Z98 (post:P×List (Nat×En)->Prop):Prop:=post (P.cV (Z97::ZX),[])
theorem qix (l:List aj) (r:Int) (post:P×List (Nat×En)->Prop):(bif Z6 r then Z98 post else bif ZY r then Z98 post else∃(ar:List aj),D7 l ar/\Zx/\nT ar/\ ∀(v:List Int),v=oD (aH ar)-> ∃(iF:List aj),D7 l iF/\Zx/\nT iF/\ ∀(m:List aj),m=aH iF-> ∃(cz:Int) (de:List Int) (bY:List aj),Z99 r v m=Z99 cz de bY/\mj bY/\ ∀(t:Int),t=mQ bY-> ∃(v:List Int) (r:Int),Zw de cz v r/\Zx/\G9 v/\ ∀(n:Int),n=eo v r->bif Zj n then bif Zj t then bif decide (max (t+(1:Int)) (n+(1:Int))>Z1) then Z9a post else Z9b t post cz n de else False else False)=(aJ [(30,vN),(27,hHv),(31,FY)] [(5,ae (aL 12 5) gHn)] 12 [bP l,iD r] []) post:=by kernel_rfl
def hHn:bq:=fun ps R post=> ∃l r,ps=[bP l,iD r]/\R=[]/\nT l/\ ∀g e,g=vj (aH l) r->e=pO (aH l) r->post (.cV [.d (aU g),iD e],[])
def JC:bq:=fun ps R post=> ∃v r n,ps=[vD v,iD r,iD n]/\R=[]/\(v.length<=1000000/\1<=r/\r<=16)/\ ∀w,w=bp (gI v r n)->post (.cV [vD w,iD 0],[])
def Z9d (GX:List Int) (r:Int):Prop:=G9 GX/\(1:Int)<=r/\r<=(16:Int)
def Z9c (GX:List Int) (r:Int) (cF:Int):List P:=Zk GX::P.d (Zt r)::Zv cF
theorem NC {g:aj} (h:cx g=true):1<=g.s.2/\g.s.2<=16/\1<=g.s.1/\g.s.1<=1099511627776/\1<=g.n/\g.n<=1099511627776:=by
 unfold cx Vb at h
 simp only[zab,tU,zah] at h
 omega
theorem yQ {l:List aj} (h:l.length<=1000000):mj (aH l):=by
 have:=dI l
 exact⟨by omega,fun g hg=>NC (rI g hg)⟩
theorem mj.sub {m k:List aj} (h:mj m) (hs: ∀g∈k,g∈m) (hl:k.length<=1000000):mj k:=⟨hl,fun g hg=>h.2 g (hs g hg)⟩
theorem Yu (v:List Int) (i:Nat) (h:i<v.length):D.nth (aZ v) i= .int .i64 (v.getD i 0):=by
 rw[aZ,ay _ _ _ h,dR h]
theorem Yv (v:List Int) (i:Nat) (n:Int):(aZ v).set i (.int .i64 n)=aZ (v.set i n):=by simp[aZ,zb0]
section
variable {X:XF}
theorem Tk:FD X 45 DA:=KG.weaken fun ps R post h=>by
 obtain⟨v,rfl,rfl,hs,hp⟩:=h
 exact⟨v,rfl,rfl,hs,hp _ rfl⟩
theorem Yw:FD X 46 JC:=WM.weaken fun ps R post h=>by
 obtain⟨v,r,n,rfl,rfl,⟨hs,h1,h2⟩,hp⟩:=h
 exact⟨v,r,n,rfl,rfl,hs,fun h=>absurd ⟨h1,h2⟩ h,fun _=>hp _ rfl⟩
theorem qdz:LD X 27 3 (ae (aL 27 3) gHv):=LD.idx (H:=[]) (hk:=[]) (by kernel_rfl) (by kernel_rfl) .nil .nil
 (A:=List aj) (B:=List Int) (fun m v i=>hvH m v i) (fun m=>m.length) (fun m i v=>mj m/\v=rJ (m.take i))
 (fun m x=>x=(.exit 0,⟨33,[(3,.sl 0 0 16)],[(0,⟨0,none,arI false (rJ m)⟩)]⟩))
 (by
  rintro m v i post h0 bN bg ⟨hr,hv⟩ hn ho
  (rw[<-qa1];delta ZD cP r3 BE Zg gQ Ae Zn fu og BF tE Z8V Za Z9 Zj Gu ep fC tC vO Jj)
  have e1:D.nth (m.map aU) i.toNat=aU m[i.toNat]:=ay _ _ _ bg
  have hg:=hr.2 _ (zas bg)
  have VZ:=hr.1
  have jK:=fun(h1:1<=(m[i.toNat]'bg).s.2) (h2:(m[i.toNat]'bg).s.2<=16)=>Rw (l:=m.take i.toNat) (g:=m[i.toNat]'bg) h1 h2
  rw[<-zag bg,<-hv] at jK
  rw[e1]
  generalize m[i.toNat]=g at hg jK
  have hvl:v.length=16:=by rw[hv,jx]
  have c1:D.ah (D.aq (aU g) 1)=g.s.2:=rfl
  have c2:D.ah (D.aq (aU g) 2)=g.n:=rfl
  rw[c1,c2,Yu v _ (by omega)]
  have w1: ∀a b:Int,D.aV (D.int .i64 a) [D.int .i64 b]= .int .i64 b:=fun _ _=>rfl
  have v1: ∀a:Int,D.ah (.int .i64 a)=a:=fun _=>rfl
  rw[v1,w1,Yv,jK hg.1 hg.2.1]
  have jJ:(-9223372036854775808:Int)<=g.s.2-1/\g.s.2-1<=9223372036854775807:=by omega
  have cm:(0:Int)<=g.s.2-1/\g.s.2-1<((16:Nat):Int):=by omega
  have lA:(g.s.2-1).toNat<(aZ v).length:=by simp[aZ];omega
  refine bJ bN (ak ⟨h0,bN⟩ (ak (by simpa using bg) (ao (ft _) (ak jJ (ak jJ (ak cm (ak lA (ao (Aj _) (ak cm (ak lA (ao (Aj _) (ak (by omega) (hn _ ⟨hr,rfl⟩))))))))))))))
 (by
  rintro m v i post hi ⟨hr,hv⟩ ho
  (rw[<-qa1];delta ZD cP r3 BE Zg gQ Ae Zn fu og BF tE Z8V Za Z9 Zj Gu ep fC tC vO Jj)
  refine lK (by omega) (ho _ (fun h=>by cases h) ?_)
  rw[hv,zak])
 (by
  rintro s post ⟨m,rfl,hs,hp⟩
  refine⟨m,_,rfl,⟨hs,Rx.symm⟩,?_⟩
  rintro x rfl
  exact hp _ rfl)
theorem qiy:FD X 27 hHv:=FD.mk (H:=[(30,vN),(45,DA)]) (hk:=[(3,ae (aL 27 3) gHv)]) (by kernel_rfl) (.cons K1 (.cons Tk .nil)) (.cons qdz .nil) (by
 intro ps R post hh
 obtain⟨l,rfl,rfl,hs,hp⟩:=hh
 (rw[<-qiw];delta Zk G9 ZW cP r3 BE Z7 Z8Q fu og BF tE Z8V Z90 Zx cX D7)
 refine⟨l,rfl,rfl,hs,fun m hm=>⟨m,rfl,by rw[hm];exact yQ hs.1,fun v hv=>⟨v,?_,rfl,?_,fun w hw=>hp w ?_⟩⟩⟩
 ·have e:List.take 16 (aZ v)=aZ v:=zai (by simp[aZ,hv,jx])
  rw[e]
 ·rw[hv,jx];omega
 ·rw[hw,hv,hm];rfl)
theorem Gv {m:List aj} {i:Nat} (h:i<m.length):mQ (m.take (i+1))=max (mQ (m.take i)) m[i].s.1:=by rw[zag h,Ry]
theorem qdA:LD X 12 5 (ae (aL 12 5) gHn):=LD.idx (H:=[]) (hk:=[]) (by kernel_rfl) (by kernel_rfl) .nil .nil
 (A:=Int×List Int×List aj) (B:=Int) (fun a t i=>hnH a.1 a.2.1 a.2.2 t i) (fun a=>a.2.2.length) (fun a i t=>mj a.2.2/\t=mQ (a.2.2.take i))
 (fun a x=>x=(.exit 0,⟨50,[(1,iD a.1),(4,.ref 0 0 0),(6,iD (mQ a.2.2)),(7,vD a.2.1)],[(0,⟨0,none,.box 34 [iD 0,iD 0,iD 0,.sl 1 0 0,iD 0,iD 0,.sl 2 0 0]⟩),(1,⟨0,none,arI false []⟩),(2,⟨0,none,.arr 54 false []⟩)]⟩))
 (by
  rintro⟨r,v,m⟩ t i post h0 bN bg ⟨hr,ht⟩ hn ho
  try dsimp only at*
  (rw[<-qa2];delta Z92 ZT zt Z7 Z91 Z94 Zt ZK cP r3 Z93 Zn fu og BF Zk Zg gQ bT Al ZF Za Z9 Zj ep fC tC vO Jj)
  have e1:D.nth (m.map aU) i.toNat=aU m[i.toNat]:=ay _ _ _ bg
  have VZ:=hr.1
  have Cg:=Gv bg
  rw[e1]
  generalize m[i.toNat]=g at Cg
  refine bJ bN (ak ⟨h0,bN⟩ (ak (by simpa using bg) (ao (ft _) (ak (by omega) (hn _ ⟨hr,?_⟩)))))
  rw[Cg,<-ht]
  rfl)
 (by
  rintro⟨r,v,m⟩ t i post hi ⟨hr,ht⟩ ho
  try dsimp only at*
  (rw[<-qa2];delta Z92 ZT zt Z7 Z91 Z94 Zt ZK cP r3 Z93 Zn fu og BF Zk Zg gQ bT Al ZF Za Z9 Zj ep fC tC vO Jj)
  refine lK (by omega) (ho _ (fun h=>by cases h) ?_)
  rw[ht,zak]
  rfl)
 (by
  rintro s post ⟨r,v,m,rfl,hs,hp⟩
  refine⟨(r,v,m),0,rfl,⟨hs,rfl⟩,?_⟩
  rintro x rfl
  exact hp _ rfl)
end
theorem BG {l:List aj} {r:Int} (h: ¬(1<=r/\r<=16)):pO l r=1:=by
 unfold pO
 rw[zao h]
theorem BH {l:List aj} {r:Int} (h:pO l r≠0):vj l r=noG:=by
 unfold vj
 rw[zam h]
theorem Tm {l:List aj} {r:Int} (h:1<=r/\r<=16):pO l r=if max (mQ l+1) (Br l r+1)>1099511627776 then 2 else 0:=by
 unfold pO
 rw[zam (by simpa using h)]
section
variable {X:XF}
theorem qgt:FD X 12 hHn:=FD.mk (H:=[(30,vN),(27,hHv),(31,FY)]) (hk:=[(5,ae (aL 12 5) gHn)]) (by kernel_rfl) (.cons K1 (.cons qiy (.cons qaM .nil))) (.cons qdA .nil) (by
 intro ps R post hh
 obtain⟨l,r,rfl,rfl,hs,hp⟩:=hh
 (rw[<-qix];delta Z7 qu Z96 Zt Zn Za Z9 Zj Z9b WV Lr Z97 Z9a Z1 G9 Zv Zk Zw cP r3 Z92 ZT zt Z91 Z93 fu og BF bT Al ZF Z99 Zx cX D7 ZY ZR ZX Z98 Z6)
 have qgu: ¬(1<=r/\r<=16)->post (.cV [.d (aU noG),iD 1],[]):=fun h=>hp _ _ (BH (by rw[BG h];omega)).symm (BG h).symm
 refine cA (fun h1=>qgu (by omega)) fun h1=>cA (fun h2=>qgu (by omega)) fun h2=>⟨l,rfl,rfl,hs,fun v hv=>⟨l,rfl,rfl,hs,fun m hm=>⟨r,v,m,rfl,by rw[hm];exact yQ hs.1,fun t ht=>⟨v,r,rfl,rfl,?_,fun n hn=> ?_⟩⟩⟩⟩
 ·rw[hv];have:=yy (aH l);omega
 ·have sX:=yQ hs.1
  have zK:=pN m
  have ht3:mQ m<=1099511627776:=Jg (by omega) m fun g hg=>by rw[hm] at hg;exact(sX.2 g hg).2.2.2.1
  have UW:n=Br m r:=by rw[hn,hv,wA _ _ (by omega) (by omega),hm]
  have hn3:0<=Br m r:=rK m r
  have hn4:Br m r<=1099511627776:=Je m 0 (by omega) fun g hg=>by rw[hm] at hg;exact(sX.2 g hg).2.2.2.2.2
  have hE:=Tm (l:=m) (r:=r) ⟨by omega,by omega⟩
  rw[<-hm] at hp
  refine ak (by omega) (ak (by omega) (cA (fun h3=> ?_) fun h3=>ak (by omega) ?_))
  ·rw[zao (by rw[<-ht,<-UW];exact h3)] at hE
   exact hp _ _ (BH (by rw[hE];omega)).symm hE.symm
  ·rw[zam (by rw[<-ht,<-UW];exact h3)] at hE
   have hX:vj m r=qaO m r:=by unfold vj;rw[zao hE]
   have:=hp _ _ rfl rfl
   rw[hX,hE] at this
   rw[ht,UW,hv,<-hm]
   exact this)
end
theorem vq {m:List aj} {i:Nat} (h:i<m.length) (t:aj->Bool):(m.take (i+1)).filter t=(m.take i).filter t++(if t m[i]=true then [m[i]] else []):=by
 rw[zag h,zcl]
 congr 1
 by_cases ht:t m[i]=true
 ·rw[zao ht];simp[ht]
 ·rw[zam ht];simp[ht]
section
variable {X:XF}
end
abbrev bxN (n:Nat) (r:Int):Nat×En:=(n,⟨0,some n,.box 3 [iD r]⟩)
def ml (r:Int) (x:aj):Bool:=x.s.2 !=r
def Gw:bq:=fun ps R post=> ∃(x:aj) (r:Int),ps=[.d (aU x),.ref 0 0 0]/\R=[bxN 0 r]/\post (.d (.bool (ml r x)),[bxN 0 r])
theorem qdB (x:aj) (r:Int) (post:P×List (Nat×En)->Prop):(post (P.d (D.bool (Prod.snd (aj.s x) !=r)),[(0,En.mk 0 (some 0) (Obj.box 3 [P.d (D.int IntKind.i64 r)]))]))=(aJ [] [] 63 [.d (aU x),.ref 0 0 0] [bxN 0 r]) post:=by kernel_rfl
abbrev Tn (m:List aj) (r:Int):List (Nat×En):=[(0,⟨0,some 0,oR false m⟩),bxN 1 r]
abbrev DB:P:= .fn 63 [.ref 1 0 0]
abbrev ixO (m:List aj) (r n k:Int):S:=⟨19,[(0,.sl 0 0 m.length),(1,DB),(7,iD n),(8,iD k)],Tn m r⟩
abbrev oxO (m:List aj) (r:Int) (i:Int):PX×S:=(.ret,⟨19,[(0,.sl 0 0 m.length),(1,DB),(4,iD i)],Tn m r⟩)
abbrev oxE (m:List aj) (r:Int):PX×S:=(.exit 0,⟨19,[(0,.sl 0 0 m.length),(1,DB)],Tn m r⟩)
def Oz (cz:Int):List (Nat×En):=[(1,En.mk 0 (some 1) (Obj.box (3:TypeId) (Zv cz)))]
def Yx:Nat×P:=(1,P.fn (63:FuncId) [iC])
def Z9q (r:Int):List (Nat×En):=[(0,En.mk 0 (some 0) (Obj.box (3:TypeId) (Zv r)))]
def Z9p (m:List aj) (k:Int) (x:aj):Prop:=[P.d (D.agg (Af m k)),bT]=[oQ x,bT]
theorem qa3 (m:List aj) (r n k:Int) (post:PX×S->Prop):(bif ZI k n then bif vO k m then bif tC k m then bif ep m k then∃(x:aj) (cz:Int),Z9p m k x/\Z9q r=Z9q cz/\bif ml cz x then post (PX.ret,S.mk 19 (tB m::Yx::Ai k) (Dm m::Oz cz)) else bif Zj k then post (PX.normal,S.mk 19 (tB m::Yx::rR n::qz k) (Dm m::Oz cz)) else False else False else False else False else post (PX.exit 0,S.mk 19 [tB m,Yx] (Dm m::Oz r)))=(aD [(63,Gw)] [] 96 2 (ixO m r n k)) post:=by kernel_rfl
def qdC:S->K (PX×S):=fun s post=> ∃m r,s=ixO m r (m.length:Int) 0/\m.length<=1000000/\(∀(i:Int) (hi:i.toNat<m.length),0<=i->ml r m[i.toNat]=true->(∀j (hj:j<i.toNat),ml r (m[j]'(by omega))=false)->post (oxO m r i))/\((∀j (hj:j<m.length),ml r m[j]=false)->post (oxE m r))
theorem qdD (m:List aj) (r:Int) (post:P×List (Nat×En)->Prop):(∃(bY:List aj),∃(cz:Int),S.mk 19 [(0,P.sl 0 0 (List.length m)),(1,P.fn 63 [P.ref 1 0 0]),(7,P.d (D.int IntKind.i64 (↑(List.length m):Int))),(8,P.d (D.int IntKind.i64 (0:Int)))] [(0,En.mk 0 (some 0) (Obj.arr 34 false (List.map aU m))),(1,En.mk 0 (some 1) (Obj.box 3 [P.d (D.int IntKind.i64 r)]))]=S.mk 19 [(0,P.sl 0 0 (List.length bY)),(1,P.fn 63 [P.ref 1 0 0]),(7,P.d (D.int IntKind.i64 (↑(List.length bY):Int))),(8,P.d (D.int IntKind.i64 (0:Int)))] [(0,En.mk 0 (some 0) (Obj.arr 34 false (List.map aU bY))),(1,En.mk 0 (some 1) (Obj.box 3 [P.d (D.int IntKind.i64 cz)]))]/\List.length bY<=1000000/\(∀(i:Int) (hi:Int.toNat i<List.length bY),(0:Int)<=i->ml cz bY[Int.toNat i]=true->(∀(j:Nat) (hj:j<Int.toNat i),ml cz bY[j]=false)->post (P.d (D.int IntKind.i64 i),[(0,En.mk 0 (some 0) (Obj.arr 34 false (List.map aU bY))),(1,En.mk 0 (some 1) (Obj.box 3 [P.d (D.int IntKind.i64 cz)]))]))/\((∀(j:Nat) (hj:j<List.length bY),ml cz bY[j]=false)->post (P.d (D.int IntKind.i64 (-1:Int)),[(0,En.mk 0 (some 0) (Obj.arr 34 false (List.map aU bY))),(1,En.mk 0 (some 1) (Obj.box 3 [P.d (D.int IntKind.i64 cz)]))])))=(aJ [] [(2,ae (aL 96 2) qdC)] 96 [.sl 0 0 m.length,DB] (Tn m r)) post:=by kernel_rfl
def qdE:bq:=fun ps R post=> ∃m r,ps=[.sl 0 0 m.length,DB]/\R=Tn m r/\m.length<=1000000/\(∀(i:Int) (hi:i.toNat<m.length),0<=i->ml r m[i.toNat]=true->(∀j (hj:j<i.toNat),ml r (m[j]'(by omega))=false)->post (iD i,Tn m r))/\((∀j (hj:j<m.length),ml r m[j]=false)->post (iD (-1),Tn m r))
abbrev dlH (q:List aj) (n:Nat) (r i k:Int):S:=⟨42,[(0,.sl 0 0 n),(1,DB),(5,iD i),(6,iD k)],Tn q r⟩
theorem qiz (q:List aj) (n:Nat) (r i k:Int) (post:PX×S->Prop):(bif Se k n then bif my k n then bif tC k q then bif ep q k then∃(x:aj) (cz:Int),Z9p q k x/\Z9q r=Z9q cz/\bif !ml cz x then bif my i n then bif tC i q then bif ep q i then bif Zj i then bif Zj k then post (PX.normal,S.mk 42 (qX n::Yx::(5,P.d (Zn i))::ZA k) ((0,En.mk 0 (some 0) (Obj.arr (34:TypeId) false (List.set (cP q) (Zg i) (D.aV (D.agg (Af q i)) (Af q k)))))::Oz cz)) else False else False else False else False else False else bif Zj k then post (PX.normal,S.mk 42 (qX n::Yx::D6 i::ZA k) (Dm q::Oz cz)) else False else False else False else False else post (PX.exit 0,S.mk 42 [qX n,Yx,D6 i] (Dm q::Oz r)))=(aD [(63,Gw)] [] 62 5 (dlH q n r i k)) post:=by kernel_rfl
def yR (r:Int) (x:aj):Bool:=x.s.2==r
abbrev dlE (q:List aj) (n:Nat) (r i:Int):PX×S:=(.exit 0,⟨42,[(0,.sl 0 0 n),(1,DB),(5,iD i)],Tn q r⟩)
structure qdF (m:List aj) (r i k:Int):Prop where
 len:m.length<=1000000
 i0:0<=i
 ik:k=i+1
 kl:k<=m.length
 eq:(m.take k.toNat).filter (yR r)=m.take i.toNat
def gDl:S->K (PX×S):=fun s post=> ∃m r i k,s=dlH m m.length r i k/\qdF m r i k/\ ∀(o:List aj) (i':Int),o=m.filter (yR r)->i'=o.length->o.length<=m.length->post (dlE (o++m.drop o.length) m.length r i')
theorem qgv (m:List aj) (r:Int) (post:P×List (Nat×En)->Prop):(∃(bY:List aj),∃(cz:Int),[P.sl 0 0 (List.length m),P.fn 63 [P.ref 1 0 0]]=[P.sl 0 0 (List.length bY),P.fn 63 [P.ref 1 0 0]]/\[(0,En.mk 0 (some 0) (Obj.arr 34 false (List.map aU m))),(1,En.mk 0 (some 1) (Obj.box 3 [P.d (D.int IntKind.i64 r)]))]=[(0,En.mk 0 (some 0) (Obj.arr 34 false (List.map aU bY))),(1,En.mk 0 (some 1) (Obj.box 3 [P.d (D.int IntKind.i64 cz)]))]/\List.length bY<=1000000/\(∀(i:Int) (hi:Int.toNat i<List.length bY),(0:Int)<=i->ml cz bY[Int.toNat i]=true->(∀(j:Nat) (hj:j<Int.toNat i),ml cz bY[j]=false)->bif i==(-1:Int) then post (P.sl 0 0 (List.length m),[(0,En.mk 0 (some 0) (Obj.arr 34 false (List.map aU bY))),(1,En.mk 0 (some 1) (Obj.box 3 [P.d (D.int IntKind.i64 cz)]))]) else bif decide ((-9223372036854775808:Int)<=i+(1:Int)/\i+(1:Int)<=(9223372036854775807:Int)) then∃(NF:List aj),∃(r:Int),∃(aG:Int),∃(k:Int),S.mk 42 [(0,P.sl 0 0 (List.length m)),(1,P.fn 63 [P.ref 1 0 0]),(5,P.d (D.int IntKind.i64 i)),(6,P.d (D.int IntKind.i64 (i+(1:Int))))] [(0,En.mk 0 (some 0) (Obj.arr 34 false (List.map aU bY))),(1,En.mk 0 (some 1) (Obj.box 3 [P.d (D.int IntKind.i64 cz)]))]=S.mk 42 [(0,P.sl 0 0 (List.length NF)),(1,P.fn 63 [P.ref 1 0 0]),(5,P.d (D.int IntKind.i64 aG)),(6,P.d (D.int IntKind.i64 k))] [(0,En.mk 0 (some 0) (Obj.arr 34 false (List.map aU NF))),(1,En.mk 0 (some 1) (Obj.box 3 [P.d (D.int IntKind.i64 r)]))]/\qdF NF r aG k/\ ∀(o:List aj) (i':Int),o=List.filter (yR r) NF->i'=(↑(List.length o):Int)->List.length o<=List.length NF->bif decide ((0:Int)<=i'/\i'<=(↑(List.length NF):Int)) then bif decide (Int.toNat i'+(List.length NF-Int.toNat i')<=List.length (List.map aU (o++List.drop (List.length o) NF))) then bif decide ((0:Int)<=i'/\i'<=(↑(List.length NF):Int)) then post (P.sl 0 0 (Int.toNat i'),[(0,En.mk 0 (some 0) (Obj.arr 34 false (List.take (Int.toNat i') (List.map aU (o++List.drop (List.length o) NF))++List.replicate (List.length NF-Int.toNat i') (D.agg [D.int IntKind.i64 (0:Int),D.int IntKind.i64 (0:Int),D.int IntKind.i64 (0:Int),D.fQ,D.int IntKind.i64 (0:Int),D.int IntKind.i64 (0:Int),D.fQ])++List.drop (Int.toNat i'+(List.length NF-Int.toNat i')) (List.map aU (o++List.drop (List.length o) NF))))),(1,En.mk 0 (some 1) (Obj.box 3 [P.d (D.int IntKind.i64 r)]))]) else False else False else False else False)/\((∀(j:Nat) (hj:j<List.length bY),ml cz bY[j]=false)->post (P.sl 0 0 (List.length m),[(0,En.mk 0 (some 0) (Obj.arr 34 false (List.map aU bY))),(1,En.mk 0 (some 1) (Obj.box 3 [P.d (D.int IntKind.i64 cz)]))])))=(aJ [(96,qdE)] [(5,ae (aL 62 5) gDl)] 62 [.sl 0 0 m.length,DB] (Tn m r)) post:=by kernel_rfl
def hDl:bq:=fun ps R post=> ∃m r,ps=[.sl 0 0 m.length,DB]/\R=Tn m r/\m.length<=1000000/\ ∀(o:List aj) (tl:List D),o=m.filter (yR r)->post (.sl 0 0 o.length,[(0,⟨0,some 0,.arr 34 false (o.map aU++tl)⟩),bxN 1 r])
def gtK (a b:az):Bool:=lG b a
def JD:bq:=KY 65 34 aU (fun g:aj=>g.s) gtK
def Z9u (o:List aj) (tl:List D):List (Nat×En):=[(0,En.mk 0 (some 0) (Obj.arr (34:TypeId) false (cP o++tl)))]
def Z9t (m:List aj):List P:=[oF m,P.fn (63:FuncId) [iC]]
theorem qgw (l:List aj) (r:Int) (post:P×List (Nat×En)->Prop):(∃(ar:List aj),D7 l ar/\Zx/\nT ar/\ ∀(m:List aj),m=aH ar-> ∃(bY:List aj) (cz:Int),Z9t m=Z9t bY/\Dm m::Oz r=Dm bY::Oz cz/\mx bY/\ ∀(o:List aj) (tl:List D),o=List.filter (yR cz) bY-> ∃(l:List aj) (qgx:List D),[oF o,P.fn (65:FuncId) []]=[oF l,P.fn (65:FuncId) []]/\Z9u o tl=Z9u l qgx/\mx l/\ ∀(l':List aj),List.Perm l' l->List.Pairwise (fun(a b:aj)=>gtK (aj.s b) (aj.s a)=false) l'->post (P.fn (101:FuncId) [bT],[(0,En.mk 0 none (Obj.box (22:TypeId) [P.d (D.sl 7 (List.take (fu o) (cP l'++qgx)))]))]))=(aJ [(30,vN),(62,hDl),(64,JD)] [] 36 [bP l,iD r] []) post:=by kernel_rfl
def Tp:bq:=fun ps R post=> ∃l r,ps=[bP l,iD r]/\R=[]/\nT l/\ ∀o,o=Ad (aH l) r->post (.fn 101 [.ref 0 0 0],[(0,⟨0,none,.box 22 [.d (.sl 7 (o.map aU))]⟩)])
def qgy:bq:=fun ps R post=> ∃a b:aj,ps=[.d (aU a),.d (aU b)]/\R=[]/\post (iD (pJ b.s.1 b.s.2 a.s.1 a.s.2),[])
theorem qdG (a b:aj) (post:P×List (Nat×En)->Prop):(∃(t:Int) (r:Int) (t':Int) (r':Int),IV b::DW a=IG t r t' r'/\Zx/\post (P.d (D.int .i64 (pJ t r t' r')),[]))=(aJ [(66,tX)] [] 65 [.d (aU a),.d (aU b)] []) post:=by kernel_rfl
theorem yS {α:Type} {f:α->D} (hf: ∀{a b},f a=f b->a=b) {l m:List α} (h:l.map f=m.map f):l=m:=(List.map_inj_right (f:=f) (fun _ _=>hf)).1 h
theorem qgz {a b:az} (h:bh a=bh b):a=b:=by
 obtain⟨a1,a2⟩:=a
 obtain⟨b1,b2⟩:=b
 unfold bh iE at h
 simp only[D.agg.injEq,zcG,D.int.injEq,zc9,zdc] at h
 rw[h.1,h.2]
theorem qa4 {a b:au} (h:bB a=bB b):a=b:=by
 obtain⟨a1,a2,a3⟩:=a
 obtain⟨b1,b2,b3⟩:=b
 unfold bB at h
 simp only[D.agg.injEq,zcG,D.int.injEq,zc9,zdc] at h
 rw[h.1,h.2.1,h.2.2]
theorem qdH {l m:List Int} (h:aZ l=aZ m):l=m:=yS (f:=D.int .i64) (fun h=>by cases h;rfl) h
theorem qgA {a b:aW} (h:eH a=eH b):a=b:=by
 obtain⟨k,⟨n1,n2,n3⟩,⟨p1,p2,p3⟩,nm,dr,ds,⟨a1,a2,a3⟩,⟨e1,e2,e3⟩,tx,es⟩:=a
 obtain⟨k',⟨n1',n2',n3'⟩,⟨p1',p2',p3'⟩,nm',dr',ds',⟨a1',a2',a3'⟩,⟨e1',e2',e3'⟩,tx',fA⟩:=b
 unfold eH iE at h
 simp only[D.agg.injEq,zcG,D.int.injEq,D.str.injEq,D.bool.injEq,D.sl.injEq,zc9,zdc] at h
 obtain⟨rfl,rfl,rfl,rfl,rfl,rfl,rfl,rfl,rfl,h1,rfl,rfl,rfl,rfl,rfl,rfl,rfl,h2⟩:=h
 rw[yS qgz h1,yS qa4 h2]
theorem qa5 {a b:aj} (h:aU a=aU b):a=b:=by
 obtain⟨⟨s1,s2⟩,n,d,⟨u1,u2⟩,o⟩:=a
 obtain⟨⟨s1',s2'⟩,n',d',⟨u1',u2'⟩,o'⟩:=b
 unfold aU iE at h
 simp only[D.agg.injEq,zcG,D.int.injEq,D.sl.injEq,zc9,zdc] at h
 obtain⟨rfl,rfl,rfl,h1,rfl,rfl,h2⟩:=h
 rw[qdH h1,yS qgA h2]
noncomputable def qdI (d:D):aj:=by
 classical exact if h: ∃g,aU g=d then h.choose else⟨(0,0),0,[],(0,0),[]⟩
theorem Tq (g:aj):qdI (aU g)=g:=by
 have h: ∃x,aU x=aU g:=⟨g,rfl⟩
 unfold qdI
 rw[dif_pos h]
 exact qa5 h.choose_spec
theorem pU (r:Int) (x:aj):yR r x= !ml r x:=by
 unfold yR ml bne
 rw[Bool.not_not]
theorem qdJ:FC 65 qgy:=FC.mk (H:=[(66,tX)]) (by kernel_rfl) (.cons qaK .nil) (by
 intro ps R post hh
 obtain⟨a,b,rfl,rfl,hp⟩:=hh
 (rw[<-qdG];delta Zx Zt ZE IG iB gK iU gN IV DW)
 exact⟨_,_,_,_,rfl,rfl,hp⟩)
theorem wM {m o:List aj} (h:o.length<=m.length):(o++m.drop o.length).length=m.length:=by simp;omega
theorem Yy {m o:List aj} {k:Nat} (hk:k<m.length) (h:o.length<=k):(o++m.drop o.length)[k]'(by rw[wM (by omega)];exact hk)=m[k]:=by
 rw[List.getElem_append_right h,List.getElem_drop]
 congr 1
 omega
theorem Yz {m o:List aj} {x:aj} (h:o.length<m.length):(o++m.drop o.length).set o.length x=(o++[x])++m.drop (o++[x]).length:=by
 rw[zcE _ _ (zaj _),Nat.sub_self,zaY]
 congr 1
 rw[za2 h,List.set_cons_zero]
 simp
theorem Ls {m o:List aj} {k:Nat} (hk:k<m.length) (h:o.length<=k):D.nth ((o++m.drop o.length).map aU) k=aU m[k]:=by
 rw[ay _ _ _ (by rw[wM (by omega)];exact hk),Yy hk h]
section
variable {X:XF}
theorem Tr:FD X 63 Gw:=FD.mk (H:=[]) (hk:=[]) (by kernel_rfl) .nil .nil (by
 intro ps R post hh
 obtain⟨x,r,rfl,rfl,hp⟩:=hh
 rw[<-qdB]
 exact hp)
theorem YA:LD X 96 2 (ae (aL 96 2) qdC):=
 LD.find (H:=[(63,Gw)]) (hk:=[]) (by kernel_rfl) (by kernel_rfl) (.cons Tr .nil) .nil
  (A:=List aj×Int) (fun a k=>ixO a.1 a.2 (a.1.length:Int) k) (·.1) (fun a _ x=>ml a.2 x) (fun a=>a.1.length<=1000000) (fun a i=>oxO a.1 a.2 i) (fun a=>oxE a.1 a.2) (fun _ _ h=>by cases h) (fun _ h=>by cases h)
  (by
   rintro⟨m,r⟩ k post dO hm h0 hk ht hf
   dsimp only at*
   (rw[<-qa3];delta Zn qz Zt rR Za Z9 Zj Zv Oz cP Dm nf Ai iC Yx fu oF tB Z9q jg jh iB gK iU gN oQ bT Zg gQ Ae oE oS Af Z9p ep fC tC og vO ZI)
   have e1:D.nth (m.map aU) k.toNat=aU m[k.toNat]:=ay _ _ _ dO
   rw[e1]
   simp only[zaa]
   refine bJ hk (ak ⟨h0,hk⟩ (ak dO (ao (ft _) ⟨m[k.toNat],r,rfl,rfl,ax (fun h=>ht h) fun h=>ak (by omega) (hf h)⟩))))
  (by
   rintro⟨m,r⟩ k post hm hk hp
   dsimp only at*
   (rw[<-qa3];delta Zn qz Zt rR Za Z9 Zj Zv Oz cP Dm nf Ai iC Yx fu oF tB Z9q jg jh iB gK iU gN oQ bT Zg gQ Ae oE oS Af Z9p ep fC tC og vO ZI)
   exact lK (by omega) hp)
  (by
   rintro s post ⟨m,r,rfl,hm,h1,h2⟩
   exact⟨(m,r),rfl,hm,h1,h2⟩)
theorem qgB:FD X 96 qdE:=FD.mk (H:=[]) (hk:=[(2,ae (aL 96 2) qdC)]) (by kernel_rfl) .nil (.cons YA .nil) (by
 intro ps R post hh
 obtain⟨m,r,rfl,rfl,hm,h1,h2⟩:=hh
 rw[<-qdD]
 exact⟨m,r,rfl,hm,h1,h2⟩)
theorem qdK:LD X 62 5 (ae (aL 62 5) gDl):=
 LD.par (H:=[(63,Gw)]) (hk:=[]) (by kernel_rfl) (by kernel_rfl) (.cons Tr .nil) .nil
  (A:=List aj×Int) (B:=List aj×Int×Int) (fun a b=>dlH (b.1++a.1.drop b.1.length) a.1.length a.2 b.2.1 b.2.2)
  (fun a b=>a.1.length<=1000000/\b.1=(a.1.take b.2.2.toNat).filter (yR a.2)/\b.2.1=(b.1.length:Int)/\0<=b.2.2/\b.2.2.toNat<=a.1.length)
  (fun a b=>((a.1.length:Int)-b.2.2).toNat)
  (fun a x=> ∃(o:List aj) (i:Int),o=a.1.filter (yR a.2)/\i=(o.length:Int)/\o.length<=a.1.length/\x=dlE (o++a.1.drop o.length) a.1.length a.2 i)
  (by
   rintro⟨m,r⟩ ⟨o,i,k⟩ ⟨hm,ho,hi,h0,hk⟩
   dsimp only at*
   have lX:o.length<=k.toNat:=by
    rw[ho]
    refine zaI (za4 _ _) ?_
    simp
    omega
   (rw[<-qiz];delta cP Dm Zt D6 Zv Oz Zg gQ Ae oE oS Af Zn ZA iC Yx ZB qX Za Z9 Zj Z9q jg jh iB gK iU gN oQ bT Z9p ep fC tC my Se)
   refine cA (fun hp=> ?_) fun hp=> ?_
   ·have bg:k.toNat<m.length:=by omega
    have kC:=vq bg (yR r)
    have EG:=wM (m:=m) (o:=o) (by omega)
    have e1:D.nth ((o++m.drop o.length).map aU) k.toNat=aU m[k.toNat]:=Ls bg lX
    have jK:=fun x:aj=>Yz (m:=m) (o:=o) (x:=x) (by omega)
    have hit:i.toNat=o.length:=by omega
    have hib:0<=i/\i<(m.length:Int):=⟨by omega,by omega⟩
    have hif:(-9223372036854775808:Int)<=i+1/\i+1<=9223372036854775807:=by omega
    have hJ:(-9223372036854775808:Int)<=k+1/\k+1<=9223372036854775807:=by omega
    have e2:D.nth ((o++m.drop o.length).map aU) i.toNat=aU m[i.toNat]:=Ls (by omega) (by omega)
    rw[e1,e2]
    generalize m[k.toNat]=g at*
    generalize m[i.toNat]=y at*
    have w1: ∀x y:aj,D.aV (D.agg [D.int .i64 (D.ah (D.aq (aU x) 0)),D.int .i64 (D.ah (D.aq (aU x) 1)),D.int .i64 (D.ah (D.aq (aU x) 2)),D.sl 1 (D.e8 (D.aq (aU x) 3)),D.int .i64 (D.ah (D.aq (aU x) 4)),D.int .i64 (D.ah (D.aq (aU x) 5)),D.sl 18 (D.e8 (D.aq (aU x) 6))]) [D.int .i64 (D.ah (D.aq (aU y) 0)),D.int .i64 (D.ah (D.aq (aU y) 1)),D.int .i64 (D.ah (D.aq (aU y) 2)),D.sl 1 (D.e8 (D.aq (aU y) 3)),D.int .i64 (D.ah (D.aq (aU y) 4)),D.int .i64 (D.ah (D.aq (aU y) 5)),D.sl 18 (D.e8 (D.aq (aU y) 6))]=aU y:=fun _ _=>rfl
    rw[w1,hit,<-zb0,jK]
    simp only[zaa,EG]
    refine ak ⟨h0,hp⟩ (ak bg (ao (ft _) ⟨g,r,rfl,rfl,ax (fun h=> ?_) fun h=> ?_⟩))
    ·refine ak hib (ak (by omega) (ao (ft _) (ak hif (ak hJ ?_))))
     refine⟨((m.length:Int)-(k+1)).toNat,by omega,(o++[g],i+1,k+1),rfl,⟨hm,?_,?_,by show 0<=k+1;omega,by show(k+1).toNat<=m.length;omega⟩,rfl⟩
     ·show o++[g]=_
      rw[show(k+1).toNat=k.toNat+1 by omega,kC,zao (by rw[pU];exact h),ho]
     ·show i+1=((o++[g]).length:Int)
      rw[zan]
      simp
      exact hi
    ·refine ak hJ ?_
     refine⟨((m.length:Int)-(k+1)).toNat,by omega,(o,i,k+1),rfl,⟨hm,?_,hi,by show 0<=k+1;omega,by show(k+1).toNat<=m.length;omega⟩,rfl⟩
     show o=_
     rw[show(k+1).toNat=k.toNat+1 by omega,kC,zam (by rw[pU,h];simp),zbj]
     exact ho
   ·refine⟨o,i,?_,hi,by omega,rfl⟩
    rw[ho,zai (by omega)])
  (by
   rintro s post ⟨m,r,i,k,rfl,hq,hp⟩
   have tA:=hq.kl
   have h0:=hq.i0
   have hik:=hq.ik
   have hl:(m.take i.toNat).length=i.toNat:=by rw[zay];omega
   refine⟨(m,r),(m.take i.toNat,i,k),?_,⟨hq.len,hq.eq.symm,?_,by show 0<=k;omega,by show k.toNat<=m.length;omega⟩,?_⟩
   ·dsimp only
    rw[hl,zbR]
   ·show i=_
    rw[hl]
    omega
   ·rintro x ⟨o,i',h1,h2,h3,rfl⟩
    exact hp o i' h1 h2 h3)
theorem qgC {m:List aj} {r:Int} (h: ∀j (hj:j<m.length),ml r m[j]=false):m.filter (yR r)=m:=by
 rw[List.filter_eq_self]
 intro x hx
 obtain⟨j,hj,rfl⟩:=zaU hx
 rw[pU,h j hj]
 rfl
theorem YB {m:List aj} {r i:Int} (hm:m.length<=1000000) (hi:i.toNat<m.length) (h0:0<=i) (ht:ml r m[i.toNat]=true) (hb: ∀j (hj:j<i.toNat),ml r (m[j]'(by omega))=false):qdF m r i (i+1):=by
 refine⟨hm,h0,rfl,by omega,?_⟩
 rw[show(i+1).toNat=i.toNat+1 by omega,vq hi,zam (by rw[pU,ht];simp),zbj,List.filter_eq_self]
 intro x hx
 obtain⟨j,hj,rfl⟩:=zc5.1 hx
 rw[pU,hb j (by omega)]
 rfl
theorem qiA:FD X 62 hDl:=FD.mk (H:=[(96,qdE)]) (hk:=[(5,ae (aL 62 5) gDl)]) (by kernel_rfl) (.cons qgB .nil) (.cons qdK .nil) (by
 intro ps R post hh
 obtain⟨m,r,rfl,rfl,hm,hp⟩:=hh
 rw[<-qgv]
 refine⟨m,r,rfl,rfl,hm,fun i hi h0 ht hb=>Bt (fun h=>by omega) fun _=>ak (by omega) ⟨m,r,i,i+1,rfl,YB hm hi h0 ht hb,fun o i' ho xh lX=> ?_⟩,fun h=> ?_⟩
 ·have hit:i'.toNat=o.length:=by omega
  refine ak (by omega) (ak (by rw[hit,zaa,wM lX];omega) (ak (by omega) ?_))
  rw[hit,zaB,zb2 (by simp),zaY]
  exact hp o _ ho
 ·have:=hp m [] (qgC h).symm
  rwa [zbj] at this)
theorem YC:FD X 64 JD:=RC (dec:=qdI) (c:=fun a b=>pJ b.s.1 b.s.2 a.s.1 a.s.2)
 (FD.sJ Tryz.func64 (by kernel_rfl) (by kernel_rfl) fun ps R post h=>u5 h) (fun x=>Tq x) Jh (fun x y=>(Da y.s x.s).lt) (fun _=>⟨_,rfl⟩)
 (fun x y=>FC.qfJ qdJ ⟨x,y,rfl,rfl,rfl⟩) ⟨_,Tryz.func65,by kernel_rfl,by kernel_rfl⟩
theorem qa6:FD X 36 Tp:=FD.mk (H:=[(30,vN),(62,hDl),(64,JD)]) (hk:=[]) (by kernel_rfl) (.cons K1 (.cons qiA (.cons YC .nil))) .nil (by
 intro ps R post hh
 obtain⟨l,r,rfl,rfl,hs,hp⟩:=hh
 (rw[<-qgw];delta cP fu bT Z9u oF mx Zt Zv Oz Dm iC Z9t Zx cX D7)
 have qp:=dI l
 have r0:=hs.1
 refine⟨l,rfl,rfl,hs,fun m hm=>⟨m,r,rfl,rfl,by rw[hm];omega,fun o tl ho=>⟨o,tl,rfl,rfl,?_,fun l' Gf hpw=> ?_⟩⟩⟩
 ·rw[ho,hm]
  exact zaI (za4 _ _) (by omega)
 ·have e:l'=Ad (aH l) r:=Xz (nS l) (by rw[<-hm];exact ho▸Gf) hpw
  rw[<-Gf.length_eq,zb2 (by simp)]
  exact hp l' e)
end
def nX (ns:List Nat):List (Nat×En)->List (Nat×En)
 | []=>[]
 | (k,e)::r=>(k,if gR k ns then⟨e.aX,none,e.obj⟩ else e)::nX ns r
def S.lu (ns:List Nat) (s:S):S:=⟨s.n,s.tm,nX ns s.rg⟩
theorem yT (ns:List Nat) (n:Nat): ∀(R:List (Nat×En)),lk (nX ns R) n=(lk R n).map fun e=>if gR n ns then⟨e.aX,none,e.obj⟩ else e
 | []=>rfl
 | (k,e)::r=>by
  simp only[nX,lk]
  split
  ·rename_i hk
   rw[zaf hk]
   rfl
  ·exact yT ns n r
theorem kD {ns:List Nat} {R:List (Nat×En)} {n:Nat} {e':En} (h:lk (nX ns R) n=some e'): ∃e,lk R n=some e/\e'.aX=e.aX/\e'.obj=e.obj/\(e'.tag=none\/e'=e):=by
 rw[yT,zaw] at h
 obtain⟨e,he,rfl⟩:=h
 refine⟨e,he,?_⟩
 split
 ·exact⟨rfl,rfl,.inl rfl⟩
 ·exact⟨rfl,rfl,.inr rfl⟩
theorem Gx {ns:List Nat} {R:List (Nat×En)} {n:Nat} {e:En} (h:lk R n=some e): ∃e',lk (nX ns R) n=some e'/\e'.aX=e.aX/\e'.obj=e.obj:=by
 rw[yT,h]
 refine⟨_,rfl,?_⟩
 split<;>exact⟨rfl,rfl⟩
section
variable {Q:Program} {T:Tg} {F:Nat->Prop} {G:Nat->Value} {w:World} {a:Act} {s:S} {ns:List Nat}
theorem BI:Own G (nX ns s.rg)=Own G s.rg:=by
 funext b
 refine propext ⟨?_,?_⟩
 ·rintro⟨n,e',he,hb⟩
  obtain⟨e,h1,_,h3,_⟩:=kD he
  exact⟨n,e,h1,by rw[<-h3];exact hb⟩
 ·rintro⟨n,e,he,hb⟩
  obtain⟨e',h1,_,h3⟩:=Gx (ns:=ns) he
  exact⟨n,e',h1,by rw[h3];exact hb⟩
theorem aC.lu (h:aC Q T F G w a s):aC Q T F G w a (s.lu ns):=by
 have hN:Names G G s.rg (nX ns s.rg):=⟨fun n e he=>by
  obtain⟨e',h1,h2,h3⟩:=Gx (ns:=ns) he
  exact⟨e',h1,by omega,fun _ hl=>by rw[h3] at hl;exact hl⟩,fun _ _ _ _ _ _ _=>rfl⟩
 have hx:Ext (Own G s.rg) (Own G (nX ns s.rg)) F F w w:=by rw[BI];exact Ext.refl _ _ _
 refine⟨h.rf.go hx,h.size,fun t p hp=>ct.mono (fun _ h=>h) (fun _ _=>rfl) hN (h.tm t p hp),fun n e' he=> ?_,fun n m e e' b he cI hb dj=> ?_,fun n e b he hb=> ?_,h.jm,fun n e i he hi hl=> ?_,h.z,h.dr,h.sz⟩
 ·obtain⟨e,h1,_,h3,_⟩:=kD he
  rw[h3]
  exact(h.rg n e h1).mono (fun _ h=>h) (fun _ _=>rfl) hN rfl (fun _ _=>rfl)
 ·obtain⟨x,h1,_,h3,_⟩:=kD he
  obtain⟨x',N6,_,h3',_⟩:=kD cI
  rw[h3] at hb
  rw[h3'] at dj
  exact h.own n m x x' b h1 N6 hb dj
 ·obtain⟨x,h1,_,h3,_⟩:=kD he
  rw[h3] at hb
  exact h.mq n x b h1 hb
 ·obtain⟨x,h1,_,h3,h4⟩:=kD he
  rcases h4 with h4 |h4
  ·rw[h4] at hi;cases hi
  ·subst h4
   exact h.tag n _ i h1 hi hl
end
theorem TW.lu {Q:Program} {T:Tg} {c:Code} {s:S} {ns:List Nat} {post:PX×S->Prop} (h:TW Q T c (s.lu ns) post):TW Q T c s post:=fun r tv F G w a Q' hs hK=>
 h tv F G w a Q' hs.lu fun e s' a' w' hp hP=>hK e s' a' w' hp (by
  obtain⟨F',G',h1,h2⟩:=hP
  refine⟨F',G',h1,?_⟩
  have e:Own G (s.lu ns).rg=Own G s.rg:=BI
  rw[<-e]
  exact h2)
theorem LN.qiB {X:XF} {w0:World} (hX:dt PR w0 X.cf) (ns:List Nat) {H HN:List (FuncId×bq)} {hk:List (Nat×(S->K (PX×S)))} {f id:Nat} {g:S->K (PX×S)} (hdr:PR.follows .mixedOrders=true) (hu:uniq PR f=true) (hc:b8 (qe f) (bx PR f id)=true) (hnr:(bR (bx PR f id)).isEmpty=true) (hH:HD X H) (oc:KX w0 HN) (hl:XA w0 f hk)
  {A B:Type} (hd:A->B->S) (Inv:A->B->Prop) (mu:A->B->Nat) (Out:A->PX×S->Prop)
  (hr: ∀a b,Inv a b->eX H HN hk f id (hd a b) (roundPost (mu a b) (fun m s=> ∃b',s.lu ns=hd a b'/\Inv a b'/\m=mu a b') (Out a)))
  (hg: ∀s post,g s post-> ∃a b,s.lu ns=hd a b/\Inv a b/\ ∀x,Out a x->post x):LN w0 f id (ae (aL f id) g):=by
 intro val lo mk s post hp
 unfold ae at hp
 cases hh:cr (aL f id) s with
 |none=>simp only[hh] at hp
 |some s0=>
  simp only[hh] at hp
  obtain⟨a,b,h0,h1,h2⟩:=hg s0 post hp
  refine TW.mono (TW.loop (keep:=aL f id) (I:=fun m s=> ∃b',s.lu ns=hd a b'/\Inv a b'/\m=mu a b') (O:=Out a) (fun n s hs=> ?_) hh ⟨b,h0,h1,rfl⟩) h2
  obtain⟨b',h4,h3,rfl⟩:=hs
  have:=hr a b' h3
  unfold eX at this
  refine TW.lu (ns:=ns) ?_
  rw[h4]
  refine TW.mono (dX (kp:=Ir X) (T:=⟨val,w0,lo,mk⟩) oc.get (yz hH) hX hdr (kp1:=aL f) (bx PR f id) hc (fun d hd h hh s post hp=>by
   have:=hl.get _ _ hh val lo mk s post hp
   rwa [tR hu hd] at this) (fun x hx=>by rw[zbN.1 hnr] at hx;cases hx) _ _ this) ?_
  rintro⟨e,s1⟩ hx
  cases e with
  |normal=>
   obtain⟨s2,h4,m,h5,h6⟩:=KW.dN (p:=fun s2=>cr (aL f id) s1=some s2) (fun _ h=>h) _ hx
   exact⟨s2,h4,m,h5,h6⟩
  |exit i=>
   obtain⟨s2,h4,h5⟩:=KW.dN (p:=fun s2=>dA (aL f id) s1=some s2) (fun _ h=>h) _ hx
   exact⟨s2,h4,h5⟩
  |ret=>
   obtain⟨s2,h4,h5⟩:=KW.dN (p:=fun s2=>dA (aL f id) s1=some s2) (fun _ h=>h) _ hx
   exact⟨s2,h4,h5⟩
theorem LN.qgD {X:XF} {w0:World} (hX:dt PR w0 X.cf) (ns:List Nat) {H HN:List (FuncId×bq)} {hk:List (Nat×(S->K (PX×S)))} {f id:Nat} {g:S->K (PX×S)} (hdr:PR.follows .mixedOrders=true) (hu:uniq PR f=true) (hc:b8 (qe f) (bx PR f id)=true) (hnr:(bR (bx PR f id)).isEmpty=true) (hH:HD X H) (oc:KX w0 HN) (hl:XA w0 f hk)
  {A B:Type} (hd:A->B->Int->S) (len:A->Nat) (Inv:A->Nat->B->Prop) (Out:A->PX×S->Prop)
  (hr: ∀a b (k:Int) post,0<=k->k<len a->k.toNat<len a->Inv a k.toNat b->(∀b' s,S.lu ns s=hd a b' (k+1)->Inv a (k.toNat+1) b'->post (.normal,s))->(∀x,x.1≠ .normal->Out a x->post x)->eX H HN hk f id (hd a b k) post)
  (hx: ∀a b (k:Int) post,k=len a->Inv a (len a) b->(∀x,x.1≠ .normal->Out a x->post x)->eX H HN hk f id (hd a b k) post)
  (hg: ∀s post,g s post-> ∃a b,S.lu ns s=hd a b 0/\Inv a 0 b/\ ∀x,Out a x->post x):LN w0 f id (ae (aL f id) g):=
 LN.qiB hX ns hdr hu hc hnr hH oc hl (A:=A) (B:=B×Int) (fun a b=>hd a b.1 b.2) (fun a b=>0<=b.2/\b.2.toNat<=len a/\Inv a b.2.toNat b.1) (fun a b=>(len a-b.2).toNat) Out
  (by
   rintro a ⟨b,k⟩ ⟨h1,h2,h3⟩
   dsimp only at*
   have br: ∀x:PX×S,x.1≠ .normal->Out a x->roundPost ((len a-k).toNat) (fun m s=> ∃b':B×Int,s.lu ns=hd a b'.1 b'.2/\(0<=b'.2/\b'.2.toNat<=len a/\Inv a b'.2.toNat b'.1)/\m=(len a-b'.2).toNat) (Out a) x:=by
    rintro⟨e,s⟩ dG hx
    cases e with
    |normal=>exact absurd rfl dG
    |exit i=>exact hx
    |ret=>exact hx
   by_cases hk:k<len a
   ·refine hr a b k _ h1 hk (by omega) h3 (fun b' s hs hb=> ?_) br
    exact⟨((len a:Int)-(k+1)).toNat,by omega,(b',k+1),hs,⟨by show 0<=k+1;omega,by show(k+1).toNat<=len a;omega,by show Inv a (k+1).toNat b';rw[show(k+1).toNat=k.toNat+1 by omega];exact hb⟩,rfl⟩
   ·have e:k=len a:=by omega
    refine hx a b k _ e ?_ br
    have:k.toNat=len a:=by omega
    rwa [this] at h3)
  (by
   intro s post hp
   obtain⟨a,b,h1,h2,h3⟩:=hg s post hp
   exact⟨a,(b,0),h1,⟨zby _,by simp,h2⟩,h3⟩)
abbrev onM (f:D->Option D) (c:Int):Obj:= .map 30 f c false
abbrev YD (f:D->Option D) (c:Int):Obj:= .map 50 f c false
abbrev vwB (ng no na np nh nl:Nat):Obj:= .box 120 [.sl 1 0 ng,.sl 2 0 no,.mp 3 0,.sl 4 0 na,.sl 5 0 np,.mp 6 0,.sl 7 0 nh,.sl 8 0 nl]
abbrev vwR (g:List aj) (o:List az) (f:D->Option D) (c:Int) (d:D->Option D) (n:Int) (na np nh nl:Nat) (A P H L:List D):List (Nat×En):=[(0,⟨0,some 0,vwB g.length o.length na np nh nl⟩),(1,⟨0,some 1,oR false g⟩),(2,⟨0,some 2,lZ false o⟩),(3,⟨0,some 3,onM f c⟩),(4,⟨0,none,.arr 50 false A⟩),(5,⟨0,none,.arr 104 false P⟩),(6,⟨0,some 6,YD d n⟩),(7,⟨0,none,.arr 106 false H⟩),(8,⟨0,none,.arr 106 false L⟩)]
abbrev Ao (x:aj):Obj:= .box 34 [iD x.s.1,iD x.s.2,iD x.n,.d (.sl 1 (aZ x.deps)),iD x.b7.1,iD x.b7.2,.d (.sl 18 (x.ops.map eH))]
abbrev qgE (o:aW):Obj:= .box 54 [iD o.kind,iD o.node.1,iD o.node.2.1,iD o.node.2.2,iD o.parent.1,iD o.parent.2.1,iD o.parent.2.2,sD o.name,.d (.bool o.dir),ki o.b9,iD o.after.1,iD o.after.2.1,iD o.after.2.2,iD o.elem.1,iD o.elem.2.1,iD o.elem.2.2,sD o.text,cO o.elems]
abbrev gaH (x:aj) (g:List aj) (o:List az) (f:D->Option D) (c:Int) (d:D->Option D) (n:Int) (na np nh nl:Nat) (A P H L:List D) (on:Bool) (i:Int):S:=⟨117,[(0,.ref 0 0 0),(3,.ref 9 0 0),(4,.d (.bool on)),(14,.d (.sl 18 (x.ops.map eH))),(15,iD ((x.ops.map eH).length:Int)),(16,iD i)],vwR g o f c d n na np nh nl A P H L++[(9,⟨0,none,Ao x⟩)]⟩
abbrev qdL (x:aj) (y:aW) (g:List aj) (o:List az) (f:D->Option D) (c:Int) (d:D->Option D) (n:Int) (na np nh nl:Nat) (A P H L:List D) (on:Bool) (i j:Int):S:=⟨117,[(0,.ref 0 0 0),(3,.ref 9 0 0),(4,.d (.bool on)),(6,.ref 10 0 0),(14,.d (.sl 18 (x.ops.map eH))),(15,iD ((x.ops.map eH).length:Int)),(16,iD i),(95,ki y.b9),(96,iD ((y.b9.map bh).length:Int)),(97,iD j)],vwR g o f c d n na np nh nl A P H L++[(9,⟨0,none,Ao x⟩),(10,⟨0,none,qgE y⟩)]⟩
def rS (i:Int):Nat×P:=(16,P.d (Zt i))
def iu (x:aj):Nat×P:=(15,P.d (D.int .i64 (vg x)))
def iv (x:aj):Nat×P:=(14,mZ x)
def iw (on:Bool):Nat×P:=(4,gh on)
def ig:Nat×P:=(3,P.ref 9 0 0)
def Ts (nh:Nat) (nl:Nat):List P:=[P.mp 6 0,P.sl 7 0 nh,P.sl 8 0 nl]
def BJ:P:=P.mp 3 0
def BK (o:List az):P:=P.sl 2 0 (eu o)
def fJ (g:List aj) (o:List az) (na:Nat) (np:Nat) (nh:Nat) (nl:Nat):Nat×En:=(0,En.mk 0 (some 0) (Obj.box (120:TypeId) (tE g::BK o::BJ::P.sl 4 0 na::P.sl 5 0 np::Ts nh nl)))
def Vp (y:aW):En:=En.mk 0 none (Obj.box (54:TypeId) (P.d (vJ y)::P.d (ui y)::P.d (uh y)::P.d (ug y)::P.d (zm y)::P.d (zl y)::P.d (zj y)::P.d (D.str (aW.name y))::P.d (D.bool (aW.dir y))::P.d (lj y)::P.d (Aa y)::P.d (z8 y)::P.d (z7 y)::P.d (D.int .i64 (vI y))::P.d (D.int .i64 (vH y))::P.d (D.int .i64 (vG y))::P.d (D.str (aW.text y))::Ra y))
def r8 (x:aj) (y:aW):List (Nat×En):=[(9,jC x),(10,Vp y)]
def bO (H:List D):En:=En.mk 0 none (Obj.arr (106:TypeId) false H)
def eY (d:D->Option D) (n:Int):Nat×En:=(6,En.mk 0 (some 6) (Obj.map 50 d n false))
def D8 (P:List D):En:=En.mk 0 none (Obj.arr (104:TypeId) false P)
def eT (P:List D):Nat×En:=(5,D8 P)
def D9 (A:List D):En:=En.mk 0 none (Obj.arr (50:TypeId) false A)
def eU (A:List D):Nat×En:=(4,D9 A)
def dK (f:D->Option D) (c:Int):Nat×En:=(3,En.mk 0 (some 3) (Obj.map 30 f c false))
def dL (o:List az):Nat×En:=(2,En.mk 0 (some 2) (Obj.arr (30:TypeId) false (eK o)))
def dM (g:List aj):Nat×En:=(1,En.mk 0 (some 1) (Obj.arr (34:TypeId) false (cP g)))
def r9:Nat×P:=(6,P.ref 10 0 0)
def Z9E (on:Bool) (x:aj) (i:Int) (y:aW) (j:Int):List (Nat×P):=[eW,ig,iw on,r9,iv x,iu x,rS i,(95,P.d (lj y)),(96,P.d (D.int .i64 (nb y))),(97,P.d (Zn j))]
def Z9v (y:aW) (j:Int):D:=D.nth (List.map bh (aW.b9 y)) (Zg j)
def Vq (y:aW) (j:Int):List D:=[D.agg [ui y,uh y,ug y,D.int .i64 (D.ah (D.aq (Z9v y j) 0)),D.int .i64 (D.ah (D.aq (Z9v y j) 1))]]
def yU (nl:Nat) (L:List D):Bool:=Nat.ble nl (List.length L)
theorem Tt (x:aj) (y:aW) (g:List aj) (o:List az) (f:D->Option D) (c:Int) (d:D->Option D) (n:Int) (na np nh nl:Nat) (A P H L:List D) (on:Bool) (i j:Int) (post:PX×S->Prop):(bif decide (j<nb y) then bif decide ((0:Int)<=j/\j<nb y) then bif cC PR (30:TypeId) (Z9v y j) then bif on then bif yU nl L&&aN (nl+List.length (Vq y j)) 40 then bif Zj j then post (PX.normal,S.mk 117 (Z9E on x i y j) ((0,En.mk 0 (some 0) (Obj.box (120:TypeId) [tE g,BK o,BJ,Pi.P.sl 4 0 na,Pi.P.sl 5 0 np,Pi.P.mp 6 0,Pi.P.sl 7 0 nh,Pi.P.sl 8 0 (nl+List.length (Vq y j))]))::dM g::dL o::dK f c::eU A::eT P::eY d n::(7,bO H)::(8,En.mk 0 none (Obj.arr (106:TypeId) false (List.take nl L++Vq y j)))::r8 x y)) else False else False else bif Zj j then post (PX.normal,S.mk 117 (Z9E on x i y j) (fJ g o na np nh nl::dM g::dL o::dK f c::eU A::eT P::eY d n::(7,bO H)::(8,bO L)::r8 x y)) else False else False else False else post (PX.exit 2,S.mk 117 [eW,ig,iw on,iv x,iu x,rS i] [fJ g o na np nh nl,dM g,dL o,dK f c,eU A,eT P,eY d n,(7,bO H),(8,bO L),(9,jC x)]))=(eX [] [] [] 95 13 (qdL x y g o f c d n na np nh nl A P H L on i j)) post:=by kernel_rfl
def Gy (y:aW):List bc:=y.b9.map fun s=>(y.node,s)
def cQ (on:Bool) (y:aW) (_:Nat) (L:List D) (bt:Nat) (L':List D):Prop:=bt=L'.length/\L'=L++(if on=true then(Gy y).map jz else [])
def Tv:S->K (PX×S):=fun s post=> ∃x y g o f c d n na np nh nl A P H L on i,s.lu [4,5,7,8]=qdL x y g o f c d n na np nh nl A P H L on i 0/\(y.b9.length<=200/\nl=L.length/\nl<=100000000000)/\ ∀bt L',cQ on y nl L bt L'->post (.exit 2,gaH x g o f c d n na np nh bt A P H L' on i)
def YE (H:List D) (L:List D):List (Nat×En):=[(7,bO H),(8,bO L)]
def Z9X (x:aj) (i:Int):List D:=[D.agg [Re x i,Rc x i,Rb x i,gN x,gK x]]
def Za0 (nh:Nat) (x:aj) (i:Int) (nl:Nat):List P:=[P.mp 6 0,P.sl 7 0 (nh+List.length (Z9X x i)),P.sl 8 0 nl]
def Za9 (g:List aj) (o:List az) (na:Nat) (np:Nat) (nh:Nat) (x:aj) (i:Int) (nl:Nat):Nat×En:=(0,En.mk 0 (some 0) (Obj.box (120:TypeId) (tE g::BK o::BJ::P.sl 4 0 na::P.sl 5 0 np::Za0 nh x i nl)))
def DC (L:List D) (x:aj) (i:Int):List (Nat×En):=[(8,bO L),(9,jC x),(10,En.mk 0 none (Obj.box (54:TypeId) [P.d (D.int .i64 (D.ah (D.aq (jB x i) 0))),P.d (Re x i),P.d (Rc x i),P.d (Rb x i),P.d (Xj x i),P.d (Xi x i),P.d (Xh x i),P.d (D.str (D.eI (D.aq (jB x i) 7))),P.d (D.bool (D.e7 (D.aq (jB x i) 8))),P.d (D.sl 2 (D.e8 (D.aq (jB x i) 9))),P.d (D.int .i64 (D.ah (D.aq (jB x i) 10))),P.d (D.int .i64 (D.ah (D.aq (jB x i) 11))),P.d (D.int .i64 (D.ah (D.aq (jB x i) 12))),P.d (D.int .i64 (D.ah (D.aq (jB x i) 13))),P.d (D.int .i64 (D.ah (D.aq (jB x i) 14))),P.d (D.int .i64 (D.ah (D.aq (jB x i) 15))),P.d (D.str (D.eI (D.aq (jB x i) 16))),P.d (D.sl 3 (D.e8 (D.aq (jB x i) 17)))]))]
def YF (x:aj) (i:Int):List D:=[D.agg [Re x i,Rc x i,Rb x i,Xj x i,Xi x i,Xh x i,D.str (D.eI (D.aq (jB x i) 7)),D.bool (D.e7 (D.aq (jB x i) 8))]]
def Z9U (na:Nat) (x:aj) (i:Int):Nat:=na+List.length [D.agg (gN x::gK x::ZE i)]
def Vr (g:List aj) (o:List az) (na:Nat) (x:aj) (i:Int) (np:Nat) (nh:Nat) (nl:Nat):Nat×En:=(0,En.mk 0 (some 0) (Obj.box (120:TypeId) (tE g::BK o::BJ::P.sl 4 0 (Z9U na x i)::P.sl 5 0 (np+List.length (YF x i))::Ts nh nl)))
def qY (y:aW) (aT:Nat) (cb:List D):Prop:=List.length (aW.b9 y)<=200/\aT=List.length cb/\aT<=100000000000
def Vs (nh:Nat) (H:List D) (x:aj) (i:Int) (L:List D):List (Nat×En):=(7,En.mk 0 none (Obj.arr (106:TypeId) false (List.take nh H++Z9X x i)))::DC L x i
def Lt (x:aj) (i:Int) (d:D->Option D) (n:Int):Nat×En:=(6,En.mk 0 (some 6) (Obj.map 50 (fun(k':D)=>bif D.nZ (D.agg [D.int .i64 (D.ah (D.aq (jB x i) (0+1))),D.int .i64 (D.ah (D.aq (jB x i) (0+1+1))),D.int .i64 (D.ah (D.aq (jB x i) Z5T))]) k' then some (D.bool (D.e7 (D.aq (jB x i) (Z5T+1+1+1+1+1)))) else d k') (bif Option.isSome (d (D.agg [Re x i,Rc x i,Rb x i])) then n else n+(1:Int)) false))
def Lu (np:Nat) (P:List D) (x:aj) (i:Int):Nat×En:=(5,En.mk 0 none (Obj.arr (104:TypeId) false (List.take np P++YF x i)))
def Lv (na:Nat) (A:List D) (x:aj) (i:Int):Nat×En:=(4,En.mk 0 none (Obj.arr (50:TypeId) false (List.take na A++[D.agg (gN x::gK x::ZE i)])))
def Za1 (g:List aj) (o:List az) (na:Nat) (x:aj) (i:Int) (np:Nat) (nh:Nat) (nl:Nat):Nat×En:=(0,En.mk 0 (some 0) (Obj.box (120:TypeId) (tE g::BK o::BJ::P.sl 4 0 (Z9U na x i)::P.sl 5 0 (np+List.length (YF x i))::Za0 nh x i nl)))
def vr (on:Bool) (x:aj) (i:Int):List (Nat×P):=[eW,ig,iw on,r9,iv x,iu x,rS i,(95,P.d (D.sl 2 (D.e8 (D.aq (jB x i) 9)))),(96,P.d (D.int .i64 (↑(List.length (D.e8 (D.aq (jB x i) 9))):Int))),(97,P.d Z7)]
def Vt (nh:Nat) (H:List D) (x:aj) (i:Int):Bool:=yU nh H&&aN (nh+List.length (Z9X x i)) 40
def Vu (x:aj) (i:Int):Bool:=D.ah (D.aq (jB x i) 0) !=(2:Int)
theorem qa7 (x:aj) (g:List aj) (o:List az) (f:D->Option D) (c:Int) (d:D->Option D) (n:Int) (na np nh nl:Nat) (A P H L:List D) (on:Bool) (i:Int) (post:PX×S->Prop):(bif Rf i x then bif Om i x then bif Ol x i then bif D.ah (D.aq (jB x i) 0)==(0:Int) then bif D.ah (D.aq (jB x i) 0)==(0:Int) then bif yU na A&&aN (Z9U na x i) 24 then bif yU np P&&aN (np+List.length (YF x i)) 72 then bif on then bif Vu x i then bif Vt nh H x i then∃(aI:aj) (y:aW) (aO:List aj) (aP:List az) (dJ:D->Option D) (dS:Int) (eN:D->Option D) (cF:Int) (bj:Nat) (bk:Nat) (bm:Nat) (aT:Nat) (dm:List D) (dn:List D) (dp:List D) (cb:List D) (aM:Bool) (aG:Int),S.mk 117 (vr on x i) (Za1 g o na x i np nh nl::dM g::dL o::dK f c::Lv na A x i::Lu np P x i::Lt x i d n::Vs nh H x i L)=S.mk 117 [eW,ig,iw aM,r9,iv aI,iu aI,rS aG,(95,Pi.P.d (lj y)),(96,Pi.P.d (D.int .i64 (nb y))),(97,Pi.P.d Z7)] (fJ aO aP bj bk bm aT::dM aO::dL aP::dK dJ dS::eU dm::eT dn::eY eN cF::(7,bO dp)::(8,bO cb)::r8 aI y)/\qY y aT cb/\ ∀(bt:Nat) (L':List D),cQ aM y aT cb bt L'->bif Zj aG then post (PX.normal,S.mk 117 [eW,ig,iw aM,iv aI,iu aI,(16,Pi.P.d (Zn aG))] [fJ aO aP bj bk bm bt,dM aO,dL aP,dK dJ dS,eU dm,eT dn,eY eN cF,(7,bO dp),(8,bO L'),(9,jC aI)]) else False else False else∃(aI:aj) (y:aW) (aO:List aj) (aP:List az) (dJ:D->Option D) (dS:Int) (eN:D->Option D) (cF:Int) (bj:Nat) (bk:Nat) (bm:Nat) (aT:Nat) (dm:List D) (dn:List D) (dp:List D) (cb:List D) (aM:Bool) (aG:Int),S.mk 117 (vr on x i) (Vr g o na x i np nh nl::dM g::dL o::dK f c::Lv na A x i::Lu np P x i::Lt x i d n::(7,bO H)::DC L x i)=S.mk 117 [eW,ig,iw aM,r9,iv aI,iu aI,rS aG,(95,Pi.P.d (lj y)),(96,Pi.P.d (D.int .i64 (nb y))),(97,Pi.P.d Z7)] (fJ aO aP bj bk bm aT::dM aO::dL aP::dK dJ dS::eU dm::eT dn::eY eN cF::(7,bO dp)::(8,bO cb)::r8 aI y)/\qY y aT cb/\ ∀(bt:Nat) (L':List D),cQ aM y aT cb bt L'->bif Zj aG then post (PX.normal,S.mk 117 [eW,ig,iw aM,iv aI,iu aI,(16,Pi.P.d (Zn aG))] [fJ aO aP bj bk bm bt,dM aO,dL aP,dK dJ dS,eU dm,eT dn,eY eN cF,(7,bO dp),(8,bO L'),(9,jC aI)]) else False else∃(aI:aj) (y:aW) (aO:List aj) (aP:List az) (dJ:D->Option D) (dS:Int) (eN:D->Option D) (cF:Int) (bj:Nat) (bk:Nat) (bm:Nat) (aT:Nat) (dm:List D) (dn:List D) (dp:List D) (cb:List D) (aM:Bool) (aG:Int),S.mk 117 (vr on x i) (Vr g o na x i np nh nl::dM g::dL o::dK f c::Lv na A x i::Lu np P x i::Lt x i d n::(7,bO H)::DC L x i)=S.mk 117 [eW,ig,iw aM,r9,iv aI,iu aI,rS aG,(95,Pi.P.d (lj y)),(96,Pi.P.d (D.int .i64 (nb y))),(97,Pi.P.d Z7)] (fJ aO aP bj bk bm aT::dM aO::dL aP::dK dJ dS::eU dm::eT dn::eY eN cF::(7,bO dp)::(8,bO cb)::r8 aI y)/\qY y aT cb/\ ∀(bt:Nat) (L':List D),cQ aM y aT cb bt L'->bif Zj aG then post (PX.normal,S.mk 117 [eW,ig,iw aM,iv aI,iu aI,(16,Pi.P.d (Zn aG))] [fJ aO aP bj bk bm bt,dM aO,dL aP,dK dJ dS,eU dm,eT dn,eY eN cF,(7,bO dp),(8,bO L'),(9,jC aI)]) else False else False else False else bif D.ah (D.aq (jB x i) 0)==(1:Int) then bif on then bif yU na A&&aN (Z9U na x i) 24 then bif yU np P&&aN (np+List.length (YF x i)) 72 then bif on then bif Vu x i then bif Vt nh H x i then∃(aI:aj) (y:aW) (aO:List aj) (aP:List az) (dJ:D->Option D) (dS:Int) (eN:D->Option D) (cF:Int) (bj:Nat) (bk:Nat) (bm:Nat) (aT:Nat) (dm:List D) (dn:List D) (dp:List D) (cb:List D) (aM:Bool) (aG:Int),S.mk 117 (vr on x i) (Za1 g o na x i np nh nl::dM g::dL o::dK f c::Lv na A x i::Lu np P x i::Lt x i d n::Vs nh H x i L)=S.mk 117 [eW,ig,iw aM,r9,iv aI,iu aI,rS aG,(95,Pi.P.d (lj y)),(96,Pi.P.d (D.int .i64 (nb y))),(97,Pi.P.d Z7)] (fJ aO aP bj bk bm aT::dM aO::dL aP::dK dJ dS::eU dm::eT dn::eY eN cF::(7,bO dp)::(8,bO cb)::r8 aI y)/\qY y aT cb/\ ∀(bt:Nat) (L':List D),cQ aM y aT cb bt L'->bif Zj aG then post (PX.normal,S.mk 117 [eW,ig,iw aM,iv aI,iu aI,(16,Pi.P.d (Zn aG))] [fJ aO aP bj bk bm bt,dM aO,dL aP,dK dJ dS,eU dm,eT dn,eY eN cF,(7,bO dp),(8,bO L'),(9,jC aI)]) else False else False else∃(aI:aj) (y:aW) (aO:List aj) (aP:List az) (dJ:D->Option D) (dS:Int) (eN:D->Option D) (cF:Int) (bj:Nat) (bk:Nat) (bm:Nat) (aT:Nat) (dm:List D) (dn:List D) (dp:List D) (cb:List D) (aM:Bool) (aG:Int),S.mk 117 (vr on x i) (Vr g o na x i np nh nl::dM g::dL o::dK f c::Lv na A x i::Lu np P x i::Lt x i d n::(7,bO H)::DC L x i)=S.mk 117 [eW,ig,iw aM,r9,iv aI,iu aI,rS aG,(95,Pi.P.d (lj y)),(96,Pi.P.d (D.int .i64 (nb y))),(97,Pi.P.d Z7)] (fJ aO aP bj bk bm aT::dM aO::dL aP::dK dJ dS::eU dm::eT dn::eY eN cF::(7,bO dp)::(8,bO cb)::r8 aI y)/\qY y aT cb/\ ∀(bt:Nat) (L':List D),cQ aM y aT cb bt L'->bif Zj aG then post (PX.normal,S.mk 117 [eW,ig,iw aM,iv aI,iu aI,(16,Pi.P.d (Zn aG))] [fJ aO aP bj bk bm bt,dM aO,dL aP,dK dJ dS,eU dm,eT dn,eY eN cF,(7,bO dp),(8,bO L'),(9,jC aI)]) else False else∃(aI:aj) (y:aW) (aO:List aj) (aP:List az) (dJ:D->Option D) (dS:Int) (eN:D->Option D) (cF:Int) (bj:Nat) (bk:Nat) (bm:Nat) (aT:Nat) (dm:List D) (dn:List D) (dp:List D) (cb:List D) (aM:Bool) (aG:Int),S.mk 117 (vr on x i) (Vr g o na x i np nh nl::dM g::dL o::dK f c::Lv na A x i::Lu np P x i::Lt x i d n::(7,bO H)::DC L x i)=S.mk 117 [eW,ig,iw aM,r9,iv aI,iu aI,rS aG,(95,Pi.P.d (lj y)),(96,Pi.P.d (D.int .i64 (nb y))),(97,Pi.P.d Z7)] (fJ aO aP bj bk bm aT::dM aO::dL aP::dK dJ dS::eU dm::eT dn::eY eN cF::(7,bO dp)::(8,bO cb)::r8 aI y)/\qY y aT cb/\ ∀(bt:Nat) (L':List D),cQ aM y aT cb bt L'->bif Zj aG then post (PX.normal,S.mk 117 [eW,ig,iw aM,iv aI,iu aI,(16,Pi.P.d (Zn aG))] [fJ aO aP bj bk bm bt,dM aO,dL aP,dK dJ dS,eU dm,eT dn,eY eN cF,(7,bO dp),(8,bO L'),(9,jC aI)]) else False else False else False else bif on then bif Vu x i then bif Vt nh H x i then∃(aI:aj) (y:aW) (aO:List aj) (aP:List az) (dJ:D->Option D) (dS:Int) (eN:D->Option D) (cF:Int) (bj:Nat) (bk:Nat) (bm:Nat) (aT:Nat) (dm:List D) (dn:List D) (dp:List D) (cb:List D) (aM:Bool) (aG:Int),S.mk 117 (vr on x i) (Za9 g o na np nh x i nl::dM g::dL o::dK f c::eU A::eT P::Lt x i d n::Vs nh H x i L)=S.mk 117 [eW,ig,iw aM,r9,iv aI,iu aI,rS aG,(95,Pi.P.d (lj y)),(96,Pi.P.d (D.int .i64 (nb y))),(97,Pi.P.d Z7)] (fJ aO aP bj bk bm aT::dM aO::dL aP::dK dJ dS::eU dm::eT dn::eY eN cF::(7,bO dp)::(8,bO cb)::r8 aI y)/\qY y aT cb/\ ∀(bt:Nat) (L':List D),cQ aM y aT cb bt L'->bif Zj aG then post (PX.normal,S.mk 117 [eW,ig,iw aM,iv aI,iu aI,(16,Pi.P.d (Zn aG))] [fJ aO aP bj bk bm bt,dM aO,dL aP,dK dJ dS,eU dm,eT dn,eY eN cF,(7,bO dp),(8,bO L'),(9,jC aI)]) else False else False else∃(aI:aj) (y:aW) (aO:List aj) (aP:List az) (dJ:D->Option D) (dS:Int) (eN:D->Option D) (cF:Int) (bj:Nat) (bk:Nat) (bm:Nat) (aT:Nat) (dm:List D) (dn:List D) (dp:List D) (cb:List D) (aM:Bool) (aG:Int),S.mk 117 (vr on x i) (fJ g o na np nh nl::dM g::dL o::dK f c::eU A::eT P::Lt x i d n::(7,bO H)::DC L x i)=S.mk 117 [eW,ig,iw aM,r9,iv aI,iu aI,rS aG,(95,Pi.P.d (lj y)),(96,Pi.P.d (D.int .i64 (nb y))),(97,Pi.P.d Z7)] (fJ aO aP bj bk bm aT::dM aO::dL aP::dK dJ dS::eU dm::eT dn::eY eN cF::(7,bO dp)::(8,bO cb)::r8 aI y)/\qY y aT cb/\ ∀(bt:Nat) (L':List D),cQ aM y aT cb bt L'->bif Zj aG then post (PX.normal,S.mk 117 [eW,ig,iw aM,iv aI,iu aI,(16,Pi.P.d (Zn aG))] [fJ aO aP bj bk bm bt,dM aO,dL aP,dK dJ dS,eU dm,eT dn,eY eN cF,(7,bO dp),(8,bO L'),(9,jC aI)]) else False else∃(aI:aj) (y:aW) (aO:List aj) (aP:List az) (dJ:D->Option D) (dS:Int) (eN:D->Option D) (cF:Int) (bj:Nat) (bk:Nat) (bm:Nat) (aT:Nat) (dm:List D) (dn:List D) (dp:List D) (cb:List D) (aM:Bool) (aG:Int),S.mk 117 (vr on x i) (fJ g o na np nh nl::dM g::dL o::dK f c::eU A::eT P::Lt x i d n::(7,bO H)::DC L x i)=S.mk 117 [eW,ig,iw aM,r9,iv aI,iu aI,rS aG,(95,Pi.P.d (lj y)),(96,Pi.P.d (D.int .i64 (nb y))),(97,Pi.P.d Z7)] (fJ aO aP bj bk bm aT::dM aO::dL aP::dK dJ dS::eU dm::eT dn::eY eN cF::(7,bO dp)::(8,bO cb)::r8 aI y)/\qY y aT cb/\ ∀(bt:Nat) (L':List D),cQ aM y aT cb bt L'->bif Zj aG then post (PX.normal,S.mk 117 [eW,ig,iw aM,iv aI,iu aI,(16,Pi.P.d (Zn aG))] [fJ aO aP bj bk bm bt,dM aO,dL aP,dK dJ dS,eU dm,eT dn,eY eN cF,(7,bO dp),(8,bO L'),(9,jC aI)]) else False else bif on then bif Vu x i then bif Vt nh H x i then∃(aI:aj) (y:aW) (aO:List aj) (aP:List az) (dJ:D->Option D) (dS:Int) (eN:D->Option D) (cF:Int) (bj:Nat) (bk:Nat) (bm:Nat) (aT:Nat) (dm:List D) (dn:List D) (dp:List D) (cb:List D) (aM:Bool) (aG:Int),S.mk 117 (vr on x i) (Za9 g o na np nh x i nl::dM g::dL o::dK f c::eU A::eT P::Lt x i d n::Vs nh H x i L)=S.mk 117 [eW,ig,iw aM,r9,iv aI,iu aI,rS aG,(95,Pi.P.d (lj y)),(96,Pi.P.d (D.int .i64 (nb y))),(97,Pi.P.d Z7)] (fJ aO aP bj bk bm aT::dM aO::dL aP::dK dJ dS::eU dm::eT dn::eY eN cF::(7,bO dp)::(8,bO cb)::r8 aI y)/\qY y aT cb/\ ∀(bt:Nat) (L':List D),cQ aM y aT cb bt L'->bif Zj aG then post (PX.normal,S.mk 117 [eW,ig,iw aM,iv aI,iu aI,(16,Pi.P.d (Zn aG))] [fJ aO aP bj bk bm bt,dM aO,dL aP,dK dJ dS,eU dm,eT dn,eY eN cF,(7,bO dp),(8,bO L'),(9,jC aI)]) else False else False else∃(aI:aj) (y:aW) (aO:List aj) (aP:List az) (dJ:D->Option D) (dS:Int) (eN:D->Option D) (cF:Int) (bj:Nat) (bk:Nat) (bm:Nat) (aT:Nat) (dm:List D) (dn:List D) (dp:List D) (cb:List D) (aM:Bool) (aG:Int),S.mk 117 (vr on x i) (fJ g o na np nh nl::dM g::dL o::dK f c::eU A::eT P::Lt x i d n::(7,bO H)::DC L x i)=S.mk 117 [eW,ig,iw aM,r9,iv aI,iu aI,rS aG,(95,Pi.P.d (lj y)),(96,Pi.P.d (D.int .i64 (nb y))),(97,Pi.P.d Z7)] (fJ aO aP bj bk bm aT::dM aO::dL aP::dK dJ dS::eU dm::eT dn::eY eN cF::(7,bO dp)::(8,bO cb)::r8 aI y)/\qY y aT cb/\ ∀(bt:Nat) (L':List D),cQ aM y aT cb bt L'->bif Zj aG then post (PX.normal,S.mk 117 [eW,ig,iw aM,iv aI,iu aI,(16,Pi.P.d (Zn aG))] [fJ aO aP bj bk bm bt,dM aO,dL aP,dK dJ dS,eU dm,eT dn,eY eN cF,(7,bO dp),(8,bO L'),(9,jC aI)]) else False else∃(aI:aj) (y:aW) (aO:List aj) (aP:List az) (dJ:D->Option D) (dS:Int) (eN:D->Option D) (cF:Int) (bj:Nat) (bk:Nat) (bm:Nat) (aT:Nat) (dm:List D) (dn:List D) (dp:List D) (cb:List D) (aM:Bool) (aG:Int),S.mk 117 (vr on x i) (fJ g o na np nh nl::dM g::dL o::dK f c::eU A::eT P::Lt x i d n::(7,bO H)::DC L x i)=S.mk 117 [eW,ig,iw aM,r9,iv aI,iu aI,rS aG,(95,Pi.P.d (lj y)),(96,Pi.P.d (D.int .i64 (nb y))),(97,Pi.P.d Z7)] (fJ aO aP bj bk bm aT::dM aO::dL aP::dK dJ dS::eU dm::eT dn::eY eN cF::(7,bO dp)::(8,bO cb)::r8 aI y)/\qY y aT cb/\ ∀(bt:Nat) (L':List D),cQ aM y aT cb bt L'->bif Zj aG then post (PX.normal,S.mk 117 [eW,ig,iw aM,iv aI,iu aI,(16,Pi.P.d (Zn aG))] [fJ aO aP bj bk bm bt,dM aO,dL aP,dK dJ dS,eU dm,eT dn,eY eN cF,(7,bO dp),(8,bO L'),(9,jC aI)]) else False else bif D.ah (D.aq (jB x i) 0)==(0:Int) then bif yU na A&&aN (Z9U na x i) 24 then bif yU np P&&aN (np+List.length (YF x i)) 72 then bif on then bif Vu x i then bif Vt nh H x i then∃(aI:aj) (y:aW) (aO:List aj) (aP:List az) (dJ:D->Option D) (dS:Int) (eN:D->Option D) (cF:Int) (bj:Nat) (bk:Nat) (bm:Nat) (aT:Nat) (dm:List D) (dn:List D) (dp:List D) (cb:List D) (aM:Bool) (aG:Int),S.mk 117 (vr on x i) (Za1 g o na x i np nh nl::dM g::dL o::dK f c::Lv na A x i::Lu np P x i::eY d n::Vs nh H x i L)=S.mk 117 [eW,ig,iw aM,r9,iv aI,iu aI,rS aG,(95,Pi.P.d (lj y)),(96,Pi.P.d (D.int .i64 (nb y))),(97,Pi.P.d Z7)] (fJ aO aP bj bk bm aT::dM aO::dL aP::dK dJ dS::eU dm::eT dn::eY eN cF::(7,bO dp)::(8,bO cb)::r8 aI y)/\qY y aT cb/\ ∀(bt:Nat) (L':List D),cQ aM y aT cb bt L'->bif Zj aG then post (PX.normal,S.mk 117 [eW,ig,iw aM,iv aI,iu aI,(16,Pi.P.d (Zn aG))] [fJ aO aP bj bk bm bt,dM aO,dL aP,dK dJ dS,eU dm,eT dn,eY eN cF,(7,bO dp),(8,bO L'),(9,jC aI)]) else False else False else∃(aI:aj) (y:aW) (aO:List aj) (aP:List az) (dJ:D->Option D) (dS:Int) (eN:D->Option D) (cF:Int) (bj:Nat) (bk:Nat) (bm:Nat) (aT:Nat) (dm:List D) (dn:List D) (dp:List D) (cb:List D) (aM:Bool) (aG:Int),S.mk 117 (vr on x i) (Vr g o na x i np nh nl::dM g::dL o::dK f c::Lv na A x i::Lu np P x i::eY d n::(7,bO H)::DC L x i)=S.mk 117 [eW,ig,iw aM,r9,iv aI,iu aI,rS aG,(95,Pi.P.d (lj y)),(96,Pi.P.d (D.int .i64 (nb y))),(97,Pi.P.d Z7)] (fJ aO aP bj bk bm aT::dM aO::dL aP::dK dJ dS::eU dm::eT dn::eY eN cF::(7,bO dp)::(8,bO cb)::r8 aI y)/\qY y aT cb/\ ∀(bt:Nat) (L':List D),cQ aM y aT cb bt L'->bif Zj aG then post (PX.normal,S.mk 117 [eW,ig,iw aM,iv aI,iu aI,(16,Pi.P.d (Zn aG))] [fJ aO aP bj bk bm bt,dM aO,dL aP,dK dJ dS,eU dm,eT dn,eY eN cF,(7,bO dp),(8,bO L'),(9,jC aI)]) else False else∃(aI:aj) (y:aW) (aO:List aj) (aP:List az) (dJ:D->Option D) (dS:Int) (eN:D->Option D) (cF:Int) (bj:Nat) (bk:Nat) (bm:Nat) (aT:Nat) (dm:List D) (dn:List D) (dp:List D) (cb:List D) (aM:Bool) (aG:Int),S.mk 117 (vr on x i) (Vr g o na x i np nh nl::dM g::dL o::dK f c::Lv na A x i::Lu np P x i::eY d n::(7,bO H)::DC L x i)=S.mk 117 [eW,ig,iw aM,r9,iv aI,iu aI,rS aG,(95,Pi.P.d (lj y)),(96,Pi.P.d (D.int .i64 (nb y))),(97,Pi.P.d Z7)] (fJ aO aP bj bk bm aT::dM aO::dL aP::dK dJ dS::eU dm::eT dn::eY eN cF::(7,bO dp)::(8,bO cb)::r8 aI y)/\qY y aT cb/\ ∀(bt:Nat) (L':List D),cQ aM y aT cb bt L'->bif Zj aG then post (PX.normal,S.mk 117 [eW,ig,iw aM,iv aI,iu aI,(16,Pi.P.d (Zn aG))] [fJ aO aP bj bk bm bt,dM aO,dL aP,dK dJ dS,eU dm,eT dn,eY eN cF,(7,bO dp),(8,bO L'),(9,jC aI)]) else False else False else False else bif D.ah (D.aq (jB x i) 0)==(1:Int) then bif on then bif yU na A&&aN (Z9U na x i) 24 then bif yU np P&&aN (np+List.length (YF x i)) 72 then bif on then bif Vu x i then bif Vt nh H x i then∃(aI:aj) (y:aW) (aO:List aj) (aP:List az) (dJ:D->Option D) (dS:Int) (eN:D->Option D) (cF:Int) (bj:Nat) (bk:Nat) (bm:Nat) (aT:Nat) (dm:List D) (dn:List D) (dp:List D) (cb:List D) (aM:Bool) (aG:Int),S.mk 117 (vr on x i) (Za1 g o na x i np nh nl::dM g::dL o::dK f c::Lv na A x i::Lu np P x i::eY d n::Vs nh H x i L)=S.mk 117 [eW,ig,iw aM,r9,iv aI,iu aI,rS aG,(95,Pi.P.d (lj y)),(96,Pi.P.d (D.int .i64 (nb y))),(97,Pi.P.d Z7)] (fJ aO aP bj bk bm aT::dM aO::dL aP::dK dJ dS::eU dm::eT dn::eY eN cF::(7,bO dp)::(8,bO cb)::r8 aI y)/\qY y aT cb/\ ∀(bt:Nat) (L':List D),cQ aM y aT cb bt L'->bif Zj aG then post (PX.normal,S.mk 117 [eW,ig,iw aM,iv aI,iu aI,(16,Pi.P.d (Zn aG))] [fJ aO aP bj bk bm bt,dM aO,dL aP,dK dJ dS,eU dm,eT dn,eY eN cF,(7,bO dp),(8,bO L'),(9,jC aI)]) else False else False else∃(aI:aj) (y:aW) (aO:List aj) (aP:List az) (dJ:D->Option D) (dS:Int) (eN:D->Option D) (cF:Int) (bj:Nat) (bk:Nat) (bm:Nat) (aT:Nat) (dm:List D) (dn:List D) (dp:List D) (cb:List D) (aM:Bool) (aG:Int),S.mk 117 (vr on x i) (Vr g o na x i np nh nl::dM g::dL o::dK f c::Lv na A x i::Lu np P x i::eY d n::(7,bO H)::DC L x i)=S.mk 117 [eW,ig,iw aM,r9,iv aI,iu aI,rS aG,(95,Pi.P.d (lj y)),(96,Pi.P.d (D.int .i64 (nb y))),(97,Pi.P.d Z7)] (fJ aO aP bj bk bm aT::dM aO::dL aP::dK dJ dS::eU dm::eT dn::eY eN cF::(7,bO dp)::(8,bO cb)::r8 aI y)/\qY y aT cb/\ ∀(bt:Nat) (L':List D),cQ aM y aT cb bt L'->bif Zj aG then post (PX.normal,S.mk 117 [eW,ig,iw aM,iv aI,iu aI,(16,Pi.P.d (Zn aG))] [fJ aO aP bj bk bm bt,dM aO,dL aP,dK dJ dS,eU dm,eT dn,eY eN cF,(7,bO dp),(8,bO L'),(9,jC aI)]) else False else∃(aI:aj) (y:aW) (aO:List aj) (aP:List az) (dJ:D->Option D) (dS:Int) (eN:D->Option D) (cF:Int) (bj:Nat) (bk:Nat) (bm:Nat) (aT:Nat) (dm:List D) (dn:List D) (dp:List D) (cb:List D) (aM:Bool) (aG:Int),S.mk 117 (vr on x i) (Vr g o na x i np nh nl::dM g::dL o::dK f c::Lv na A x i::Lu np P x i::eY d n::(7,bO H)::DC L x i)=S.mk 117 [eW,ig,iw aM,r9,iv aI,iu aI,rS aG,(95,Pi.P.d (lj y)),(96,Pi.P.d (D.int .i64 (nb y))),(97,Pi.P.d Z7)] (fJ aO aP bj bk bm aT::dM aO::dL aP::dK dJ dS::eU dm::eT dn::eY eN cF::(7,bO dp)::(8,bO cb)::r8 aI y)/\qY y aT cb/\ ∀(bt:Nat) (L':List D),cQ aM y aT cb bt L'->bif Zj aG then post (PX.normal,S.mk 117 [eW,ig,iw aM,iv aI,iu aI,(16,Pi.P.d (Zn aG))] [fJ aO aP bj bk bm bt,dM aO,dL aP,dK dJ dS,eU dm,eT dn,eY eN cF,(7,bO dp),(8,bO L'),(9,jC aI)]) else False else False else False else bif on then bif Vu x i then bif Vt nh H x i then∃(aI:aj) (y:aW) (aO:List aj) (aP:List az) (dJ:D->Option D) (dS:Int) (eN:D->Option D) (cF:Int) (bj:Nat) (bk:Nat) (bm:Nat) (aT:Nat) (dm:List D) (dn:List D) (dp:List D) (cb:List D) (aM:Bool) (aG:Int),S.mk 117 (vr on x i) (Za9 g o na np nh x i nl::dM g::dL o::dK f c::eU A::eT P::eY d n::Vs nh H x i L)=S.mk 117 [eW,ig,iw aM,r9,iv aI,iu aI,rS aG,(95,Pi.P.d (lj y)),(96,Pi.P.d (D.int .i64 (nb y))),(97,Pi.P.d Z7)] (fJ aO aP bj bk bm aT::dM aO::dL aP::dK dJ dS::eU dm::eT dn::eY eN cF::(7,bO dp)::(8,bO cb)::r8 aI y)/\qY y aT cb/\ ∀(bt:Nat) (L':List D),cQ aM y aT cb bt L'->bif Zj aG then post (PX.normal,S.mk 117 [eW,ig,iw aM,iv aI,iu aI,(16,Pi.P.d (Zn aG))] [fJ aO aP bj bk bm bt,dM aO,dL aP,dK dJ dS,eU dm,eT dn,eY eN cF,(7,bO dp),(8,bO L'),(9,jC aI)]) else False else False else∃(aI:aj) (y:aW) (aO:List aj) (aP:List az) (dJ:D->Option D) (dS:Int) (eN:D->Option D) (cF:Int) (bj:Nat) (bk:Nat) (bm:Nat) (aT:Nat) (dm:List D) (dn:List D) (dp:List D) (cb:List D) (aM:Bool) (aG:Int),S.mk 117 (vr on x i) (fJ g o na np nh nl::dM g::dL o::dK f c::eU A::eT P::eY d n::(7,bO H)::DC L x i)=S.mk 117 [eW,ig,iw aM,r9,iv aI,iu aI,rS aG,(95,Pi.P.d (lj y)),(96,Pi.P.d (D.int .i64 (nb y))),(97,Pi.P.d Z7)] (fJ aO aP bj bk bm aT::dM aO::dL aP::dK dJ dS::eU dm::eT dn::eY eN cF::(7,bO dp)::(8,bO cb)::r8 aI y)/\qY y aT cb/\ ∀(bt:Nat) (L':List D),cQ aM y aT cb bt L'->bif Zj aG then post (PX.normal,S.mk 117 [eW,ig,iw aM,iv aI,iu aI,(16,Pi.P.d (Zn aG))] [fJ aO aP bj bk bm bt,dM aO,dL aP,dK dJ dS,eU dm,eT dn,eY eN cF,(7,bO dp),(8,bO L'),(9,jC aI)]) else False else∃(aI:aj) (y:aW) (aO:List aj) (aP:List az) (dJ:D->Option D) (dS:Int) (eN:D->Option D) (cF:Int) (bj:Nat) (bk:Nat) (bm:Nat) (aT:Nat) (dm:List D) (dn:List D) (dp:List D) (cb:List D) (aM:Bool) (aG:Int),S.mk 117 (vr on x i) (fJ g o na np nh nl::dM g::dL o::dK f c::eU A::eT P::eY d n::(7,bO H)::DC L x i)=S.mk 117 [eW,ig,iw aM,r9,iv aI,iu aI,rS aG,(95,Pi.P.d (lj y)),(96,Pi.P.d (D.int .i64 (nb y))),(97,Pi.P.d Z7)] (fJ aO aP bj bk bm aT::dM aO::dL aP::dK dJ dS::eU dm::eT dn::eY eN cF::(7,bO dp)::(8,bO cb)::r8 aI y)/\qY y aT cb/\ ∀(bt:Nat) (L':List D),cQ aM y aT cb bt L'->bif Zj aG then post (PX.normal,S.mk 117 [eW,ig,iw aM,iv aI,iu aI,(16,Pi.P.d (Zn aG))] [fJ aO aP bj bk bm bt,dM aO,dL aP,dK dJ dS,eU dm,eT dn,eY eN cF,(7,bO dp),(8,bO L'),(9,jC aI)]) else False else bif on then bif Vu x i then bif Vt nh H x i then∃(aI:aj) (y:aW) (aO:List aj) (aP:List az) (dJ:D->Option D) (dS:Int) (eN:D->Option D) (cF:Int) (bj:Nat) (bk:Nat) (bm:Nat) (aT:Nat) (dm:List D) (dn:List D) (dp:List D) (cb:List D) (aM:Bool) (aG:Int),S.mk 117 (vr on x i) (Za9 g o na np nh x i nl::dM g::dL o::dK f c::eU A::eT P::eY d n::Vs nh H x i L)=S.mk 117 [eW,ig,iw aM,r9,iv aI,iu aI,rS aG,(95,Pi.P.d (lj y)),(96,Pi.P.d (D.int .i64 (nb y))),(97,Pi.P.d Z7)] (fJ aO aP bj bk bm aT::dM aO::dL aP::dK dJ dS::eU dm::eT dn::eY eN cF::(7,bO dp)::(8,bO cb)::r8 aI y)/\qY y aT cb/\ ∀(bt:Nat) (L':List D),cQ aM y aT cb bt L'->bif Zj aG then post (PX.normal,S.mk 117 [eW,ig,iw aM,iv aI,iu aI,(16,Pi.P.d (Zn aG))] [fJ aO aP bj bk bm bt,dM aO,dL aP,dK dJ dS,eU dm,eT dn,eY eN cF,(7,bO dp),(8,bO L'),(9,jC aI)]) else False else False else∃(aI:aj) (y:aW) (aO:List aj) (aP:List az) (dJ:D->Option D) (dS:Int) (eN:D->Option D) (cF:Int) (bj:Nat) (bk:Nat) (bm:Nat) (aT:Nat) (dm:List D) (dn:List D) (dp:List D) (cb:List D) (aM:Bool) (aG:Int),S.mk 117 (vr on x i) (fJ g o na np nh nl::dM g::dL o::dK f c::eU A::eT P::eY d n::(7,bO H)::DC L x i)=S.mk 117 [eW,ig,iw aM,r9,iv aI,iu aI,rS aG,(95,Pi.P.d (lj y)),(96,Pi.P.d (D.int .i64 (nb y))),(97,Pi.P.d Z7)] (fJ aO aP bj bk bm aT::dM aO::dL aP::dK dJ dS::eU dm::eT dn::eY eN cF::(7,bO dp)::(8,bO cb)::r8 aI y)/\qY y aT cb/\ ∀(bt:Nat) (L':List D),cQ aM y aT cb bt L'->bif Zj aG then post (PX.normal,S.mk 117 [eW,ig,iw aM,iv aI,iu aI,(16,Pi.P.d (Zn aG))] [fJ aO aP bj bk bm bt,dM aO,dL aP,dK dJ dS,eU dm,eT dn,eY eN cF,(7,bO dp),(8,bO L'),(9,jC aI)]) else False else∃(aI:aj) (y:aW) (aO:List aj) (aP:List az) (dJ:D->Option D) (dS:Int) (eN:D->Option D) (cF:Int) (bj:Nat) (bk:Nat) (bm:Nat) (aT:Nat) (dm:List D) (dn:List D) (dp:List D) (cb:List D) (aM:Bool) (aG:Int),S.mk 117 (vr on x i) (fJ g o na np nh nl::dM g::dL o::dK f c::eU A::eT P::eY d n::(7,bO H)::DC L x i)=S.mk 117 [eW,ig,iw aM,r9,iv aI,iu aI,rS aG,(95,Pi.P.d (lj y)),(96,Pi.P.d (D.int .i64 (nb y))),(97,Pi.P.d Z7)] (fJ aO aP bj bk bm aT::dM aO::dL aP::dK dJ dS::eU dm::eT dn::eY eN cF::(7,bO dp)::(8,bO cb)::r8 aI y)/\qY y aT cb/\ ∀(bt:Nat) (L':List D),cQ aM y aT cb bt L'->bif Zj aG then post (PX.normal,S.mk 117 [eW,ig,iw aM,iv aI,iu aI,(16,Pi.P.d (Zn aG))] [fJ aO aP bj bk bm bt,dM aO,dL aP,dK dJ dS,eU dm,eT dn,eY eN cF,(7,bO dp),(8,bO L'),(9,jC aI)]) else False else False else False else post (PX.exit 0,S.mk 117 [eW] (fJ g o na np nh nl::dM g::dL o::dK f c::eU A::eT P::eY d n::YE H L)))=(eX [] [] [(13,ae (aL 95 13) Tv)] 95 3 (gaH x g o f c d n na np nh nl A P H L on i)) post:=by kernel_rfl
def qC (e:au->Option Bool) (y:aW):au->Option Bool:=fun z=>if y.kind=0/\y.node=z then some y.dir else e z
def lM (d:D->Option D) (e:au->Option Bool):Prop:= ∀z:au,d (bB z)=(e z).map D.bool
structure qZ (t:Tl) (na np nh nl:Nat) (A P H L:List D):Prop where
 na:na=t.a.length
 np:np=t.p.length
 nh:nh=t.h.length
 nl:nl=t.g.length
 a:A=t.a.map bB
 p:P=t.p.map bI
 h:H=t.h.map jz
 l:L=t.g.map jz
abbrev gaE (g:List aj) (o:List az) (f:D->Option D) (c:Int) (d:D->Option D) (n:Int) (na np nh nl:Nat) (A P H L:List D):S:=⟨117,[(0,.ref 0 0 0)],vwR g o f c d n na np nh nl A P H L⟩
def qdM:S->K (PX×S):=fun s post=> ∃x g o f c d n na np nh nl A P H L on t N e,s.lu [4,5,7,8]=gaH x g o f c d n na np nh nl A P H L on 0/\(qZ t na np nh nl A P H L/\lM d e/\uv N t/\N<=300000000/\x.ops.length<=200/\ ∀y∈x.ops,y.b9.length<=200)/\
 ∀d' n' oI oJ oK bt A' P' H' L',qZ (Gg on x.s x.ops t) oI oJ oK bt A' P' H' L'->lM d' (x.ops.foldl qC e)->post (.exit 0,gaE g o f c d' n' oI oJ oK bt A' P' H' L')
abbrev qgF (g:List aj) (o:List az) (f:D->Option D) (c:Int) (d:D->Option D) (n:Int) (na np nh nl:Nat) (A P H L:List D):List (Nat×En):=[(0,⟨0,some 0,vwB g.length o.length na np nh nl⟩),(1,⟨0,some 1,oR false g⟩),(2,⟨0,some 2,lZ false o⟩),(3,⟨0,some 3,onM f c⟩),(4,⟨0,some 4,.arr 50 false A⟩),(5,⟨0,some 5,.arr 104 false P⟩),(6,⟨0,some 6,YD d n⟩),(7,⟨0,some 7,.arr 106 false H⟩),(8,⟨0,some 8,.arr 106 false L⟩)]
def Zab (x:aj):List (Nat×P):=[iv x,iu x,(16,P.d Z7)]
theorem qiC (x:aj) (g:List aj) (o:List az) (f:D->Option D) (c:Int) (d:D->Option D) (n:Int) (na np nh nl:Nat) (A P H L:List D) (post:Pi.P×List (Nat×En)->Prop):(bif cC PR (167:TypeId) (cD (f (D.agg [gN x,gK x])) (D.agg [])) then∃(aI:aj) (aO:List aj) (aP:List az) (dJ:D->Option D) (dS:Int) (eN:D->Option D) (cF:Int) (bj:Nat) (bk:Nat) (bm:Nat) (aT:Nat) (dm:List D) (dn:List D) (dp:List D) (cb:List D) (on:Bool) (t:Tl) (N:Nat) (e:au->Option Bool),S.mk 117 (eW::ig::(4,Pi.P.d (D.bool (Option.isSome (f (D.agg [gN x,gK x])))))::Zab x) [fJ g o na np nh nl,dM g,dL o,dK f c,eU A,eT P,eY d n,(7,bO H),(8,bO L),(9,jC x)]=S.mk 117 (eW::ig::iw on::Zab aI) [fJ aO aP bj bk bm aT,dM aO,dL aP,dK dJ dS,eU dm,eT dn,eY eN cF,(7,bO dp),(8,bO cb),(9,jC aI)]/\(qZ t bj bk bm aT dm dn dp cb/\lM eN e/\uv N t/\N<=300000000/\Z4f aI/\ ∀(y:aW),y∈aj.ops aI->List.length (aW.b9 y)<=200)/\ ∀(d':D->Option D) (n':Int) (oI oJ oK bt:Nat) (A' P' H' L':List D),qZ (Gg on (aj.s aI) (aj.ops aI) t) oI oJ oK bt A' P' H' L'->lM d' (List.foldl qC e (aj.ops aI))->post (Pi.P.cV [],(0,En.mk 0 (some 0) (Obj.box (120:TypeId) [tE aO,BK aP,BJ,Pi.P.sl 5 0 oI,Pi.P.sl 6 0 oJ,Pi.P.mp 4 0,Pi.P.sl 7 0 oK,Pi.P.sl 8 0 bt]))::dM aO::dL aP::dK dJ dS::(4,En.mk 0 (some 6) (Obj.map 50 d' n' false))::(5,D9 A')::(6,D8 P')::YE H' L') else False)=(rL [] [] [(3,ae (aL 95 3) qdM)] 95 [.ref 0 0 0,.d (aU x)] (qgF g o f c d n na np nh nl A P H L)) post:=by kernel_rfl
theorem ec {n m b:Nat} {l:List D} {z:D} (h:n=m) (hl:l.length=m) (hb:m<=1000000000000) (hz:b<=100):(Nat.ble n l.length&&aN (n+List.length [z]) b)=true:=by
 rw[zab]
 refine⟨by rw[zbZ];omega,cT (zaI (Nat.mul_le_mul (by simp only[zap,zat];omega:n+List.length [z]<=1000000000001) hz) (by omega)) (by simp only[zap,zat];omega)⟩
theorem qZ.go {t:Tl} {na np nh nl:Nat} {A P H L:List D} (h:qZ t na np nh nl A P H L) {on:Bool} {s:az} {y:aW} {k:Nat} {i:Int} (hi:(k:Int)=i) {bt:Nat} {L':List D} (hg:cQ on y nl L bt L'):
  (fO on y=true->gj on y=true->qZ (RZ on s t y k) (na+1) (np+1) (nh+1) bt (List.take na A++[bB (s.1,s.2,i)]) (List.take np P++[bI (rO y)]) (List.take nh H++[jz (y.node,s)]) L')/\
  (fO on y=true->gj on y=false->qZ (RZ on s t y k) (na+1) (np+1) nh bt (List.take na A++[bB (s.1,s.2,i)]) (List.take np P++[bI (rO y)]) H L')/\
  (fO on y=false->gj on y=true->qZ (RZ on s t y k) na np (nh+1) bt A P (List.take nh H++[jz (y.node,s)]) L')/\
  (fO on y=false->gj on y=false->qZ (RZ on s t y k) na np nh bt A P H L'):=by
 obtain⟨rfl,rfl,rfl,rfl,rfl,rfl,rfl,rfl⟩:=h
 obtain⟨rfl,rfl⟩:=hg
 subst hi
 have hl:t.g.map jz++(if on=true then(Gy y).map jz else [])=(if on=true then t.g++y.b9.map (fun d=>(y.node,d)) else t.g).map jz:=by
  cases on
  ·simp
  ·simp[Gy]
 have t1:List.take t.a.length (t.a.map bB)=t.a.map bB:=zai (by simp)
 have t2:List.take t.p.length (t.p.map bI)=t.p.map bI:=zai (by simp)
 have t3:List.take t.h.length (t.h.map jz)=t.h.map jz:=zai (by simp)
 rw[t1,t2,t3,hl]
 refine⟨fun h1 h2=> ?_,fun h1 h2=> ?_,fun h1 h2=> ?_,fun h1 h2=> ?_⟩<;>(unfold RZ;rw[h1,h2];constructor<;>simp)
theorem qdN (a b:au):D.nZ (bB a) (bB b)=(a==b):=by
 rw[zaE,D.gU,zaS]
 exact⟨qa4,fun h=>by rw[h]⟩
theorem lM.mk {d:D->Option D} {e:au->Option Bool} (h:lM d e) {y:aW} (hk:y.kind=0):lM (fun k'=>bif D.nZ (bB y.node) k' then some (.bool y.dir) else d k') (qC e y):=fun z=>by
 unfold qC
 show(bif D.nZ (bB y.node) (bB z) then some (D.bool y.dir) else d (bB z))=_
 rw[qdN,h z]
 by_cases hz:y.node=z
 ·rw[zao ⟨hk,hz⟩,show(y.node==z)=true by simpa using hz]
  rfl
 ·rw[zam (fun hh=>hz hh.2),show(y.node==z)=false by simpa using hz]
  rfl
theorem lM.no {d:D->Option D} {e:au->Option Bool} (h:lM d e) {y:aW} (hk: ¬y.kind=0):lM d (qC e y):=fun z=>by
 unfold qC
 rw[h z,zam (fun hh=>hk hh.1)]
structure GaP where
 x:aj
 y:aW
 g:List aj
 o:List az
 f:D->Option D
 c:Int
 d:D->Option D
 n:Int
 na:Nat
 np:Nat
 nh:Nat
 A:List D
 P:List D
 H:List D
 on:Bool
 i:Int
 L:List D
abbrev GaB:=(D->Option D)×Int×Nat×Nat×Nat×Nat×List D×List D×List D×List D
structure GaQ where
 x:aj
 g:List aj
 o:List az
 f:D->Option D
 c:Int
 on:Bool
 t:Tl
 N:Nat
 e:au->Option Bool
section
variable {X:XF} {w0:World} (hX:dt PR w0 X.cf)
include hX
theorem qdO:LN w0 95 13 (ae (aL 95 13) Tv):=LN.qgD hX [4,5,7,8] (H:=[]) (HN:=[]) (hk:=[]) D0 (by kernel_rfl) (by kernel_rfl) (by kernel_rfl) .nil .nil .nil
 (A:=GaP) (B:=Nat×List D) (fun a b j=>qdL a.x a.y a.g a.o a.f a.c a.d a.n a.na a.np a.nh b.1 a.A a.P a.H b.2 a.on a.i j) (fun a=>a.y.b9.length)
 (fun a k b=>(a.y.b9.length<=200/\a.L.length<=100000000000)/\b.1=b.2.length/\b.2=a.L++(if a.on=true then(a.y.b9.take k).map (fun s=>jz (a.y.node,s)) else []))
 (fun a x=> ∃bt L',cQ a.on a.y a.L.length a.L bt L'/\x=(.exit 2,gaH a.x a.g a.o a.f a.c a.d a.n a.na a.np a.nh bt a.A a.P a.H L' a.on a.i))
 (by
  rintro a ⟨nl,L⟩ j post h0 Ex Bx ⟨⟨hd,hL⟩,rZ,JE⟩ hn ho
  dsimp only at*
  (rw[<-Tt];delta mZ jg jh lW oC iB gK iU gN jC Zt rS vg iu iv gh iw ig bT eW Ts BJ eu BK fu tE fJ Ra vG vH vI zg z7 zh z8 Aa lj zi zj zk zl zm ug uh ui vJ Vp r8 bO eY D8 eT D9 eU dK eK dL cP dM Zn nb r9 Z9E Za Z9 Zj Zg Z9v Vq yU)
  have e1:D.nth (a.y.b9.map bh) j.toNat=bh a.y.b9[j.toNat]:=ay _ _ _ Bx
  have lL:(a.y.b9.take (j.toNat+1))=a.y.b9.take j.toNat++[a.y.b9[j.toNat]]:=zag Bx
  rw[e1]
  generalize a.y.b9[j.toNat]=z at*
  have hLl:L.length<=a.L.length+200:=by
   rw[JE,zan]
   split
   ·rw[zaa,zay];omega
   ·simp
  have Kw:j<((a.y.b9.map bh).length:Int):=by rw[zaa];exact Ex
  refine bJ Kw (ak ⟨h0,Kw⟩ (ao (jP _) (ax (fun Hj=>ao (ec rZ rfl (by omega) (by decide)) (ak (by omega) (hn (nl+1,List.take nl L++[jz (a.y.node,z)]) _ rfl ⟨⟨hd,hL⟩,?_,?_⟩))) fun qdP=>ak (by omega) (hn (nl,L) _ rfl ⟨⟨hd,hL⟩,rZ,?_⟩))))
  ·simp[rZ]
  ·rw[Hj,zao rfl] at JE⊢
   rw[lL,rZ,zak,JE,zaB,zaY]
   rfl
  ·rw[qdP] at JE⊢
   simpa using JE)
 (by
  rintro a ⟨nl,L⟩ j post hj ⟨⟨hd,hL⟩,rZ,JE⟩ ho
  dsimp only at*
  (rw[<-Tt];delta mZ jg jh lW oC iB gK iU gN jC Zt rS vg iu iv gh iw ig bT eW Ts BJ eu BK fu tE fJ Ra vG vH vI zg z7 zh z8 Aa lj zi zj zk zl zm ug uh ui vJ Vp r8 bO eY D8 eT D9 eU dK eK dL cP dM Zn nb r9 Z9E Za Z9 Zj Zg Z9v Vq yU)
  refine lK (by simp only[zaa];omega) (ho _ (fun h=>by cases h) ⟨nl,L,⟨rZ,?_⟩,rfl⟩)
  rw[JE,zak]
  cases a.on
  ·rfl
  ·simp[Gy,zb4])
 (by
  rintro s post ⟨x,y,g,o,f,c,d,n,na,np,nh,nl,A,P,H,L,on,i,hs,⟨h1,h2,h3⟩,hp⟩
  refine⟨⟨x,y,g,o,f,c,d,n,na,np,nh,A,P,H,on,i,L⟩,(nl,L),hs,⟨⟨h1,by rw[<-h2];exact h3⟩,h2,by simp⟩,?_⟩
  rintro z ⟨bt,L',hg,rfl⟩
  exact hp bt L' ⟨hg.1,hg.2⟩)
theorem qgG:LN w0 95 3 (ae (aL 95 3) qdM):=LN.qgD hX [4,5,7,8] (H:=[]) (HN:=[]) (hk:=[(13,ae (aL 95 13) Tv)]) D0 (by kernel_rfl) (by kernel_rfl) (by kernel_rfl) .nil .nil (.cons (qdO hX) .nil)
 (A:=GaQ) (B:=GaB) (fun a b i=>gaH a.x a.g a.o a.f a.c b.1 b.2.1 b.2.2.1 b.2.2.2.1 b.2.2.2.2.1 b.2.2.2.2.2.1 b.2.2.2.2.2.2.1 b.2.2.2.2.2.2.2.1 b.2.2.2.2.2.2.2.2.1 b.2.2.2.2.2.2.2.2.2 a.on i) (fun a=>a.x.ops.length)
 (fun a k b=>(uv a.N a.t/\a.N<=300000000/\a.x.ops.length<=200/\ ∀y∈a.x.ops,y.b9.length<=200)/\qZ (Gg a.on a.x.s (a.x.ops.take k) a.t) b.2.2.1 b.2.2.2.1 b.2.2.2.2.1 b.2.2.2.2.2.1 b.2.2.2.2.2.2.1 b.2.2.2.2.2.2.2.1 b.2.2.2.2.2.2.2.2.1 b.2.2.2.2.2.2.2.2.2/\lM b.1 ((a.x.ops.take k).foldl qC a.e))
 (fun a x=> ∃d' n' oI oJ oK bt A' P' H' L',qZ (Gg a.on a.x.s a.x.ops a.t) oI oJ oK bt A' P' H' L'/\lM d' (a.x.ops.foldl qC a.e)/\x=(.exit 0,gaE a.g a.o a.f a.c d' n' oI oJ oK bt A' P' H' L'))
 (by
  rintro⟨x,g,o,f,c,on,t,N,e⟩ ⟨d,n,na,np,nh,nl,A,P,H,L⟩ i post h0 bN bg ⟨hc,hR,hD⟩ hn ho
  dsimp only at*
  (rw[<-qa7];delta bO YE iB gK iU gN Zg jB Rb Rc Re Z9X Za0 BJ eu BK fu tE Za9 Xh Xi Xj mZ jg jh lW oC jC DC Ts YF Zt ZE Z9U Vr Zn Za Z9 Zj qY Ra vG vH vI zg z7 zh z8 Aa lj zi zj zk zl zm ug uh ui vJ Vp r8 eY D8 eT D9 eU fJ Z7 nb rS vg iu iv r9 gh iw ig bT eW Vs Z5T Lt Lu Lv dK eK dL cP dM Za1 vr yU Vt Vu Ol Om Rf)
  have kq:=(hc.1.ops (on:=on) (s:=x.s) hc.2.2.2 i.toNat (by omega)).mono (m:=300000200) (by omega)
  have e1:D.nth (x.ops.map eH) i.toNat=eH x.ops[i.toNat]:=ay _ _ _ bg
  have kC:=yI (on:=on) (s:=x.s) (t:=t) bg
  have NG:(x.ops.take (i.toNat+1)).foldl qC e=qC ((x.ops.take i.toNat).foldl qC e) x.ops[i.toNat]:=by rw[zag bg,za1];rfl
  have ic:=hc.2.2.2 _ (zas bg)
  have U5:((i.toNat:Nat):Int)=i:=by omega
  rw[e1]
  generalize x.ops[i.toNat]=y at kC NG ic⊢
  generalize Gg on x.s (x.ops.take i.toNat) t=t1 at kC hR kq
  generalize (x.ops.take i.toNat).foldl qC e=e2 at NG hD
  have u0:D.ah (D.aq (eH y) 0)=y.kind:=rfl
  have sr:=I2 y
  simp only[u0]
  have fB:i<((x.ops.map eH).length:Int):=by rw[zaa];exact bN
  refine bJ fB (ak ⟨h0,fB⟩ (ao sr ?_))
  clear e1 sr
  by_cases gm:y.kind=0
  ·rw[show(y.kind==0)=true by simp[gm],show(y.kind==1)=false by simp[gm],show(y.kind !=2)=true by simp[gm]]
   cases on with
   |true=>
    simp only[zbS,zbn]
    exact ao (ec hR.na (by rw[hR.a,zaa]) (by have:=kq.2.1;omega) (by decide)) (ao (ec hR.np (by rw[hR.p,zaa]) (by have:=kq.1;have:=kq.2.1;omega) (by decide)) (ao (ec hR.nh (by rw[hR.h,zaa]) (by have:=kq.2.2.1;omega) (by decide)) (⟨x,y,g,o,f,c,(fun k'=>bif D.nZ (bB y.node) k' then some (.bool y.dir) else d k'),(bif (d (bB y.node)).isSome then n else n+1),na+1,np+1,nh+1,nl,List.take na A++[bB (x.s.1,x.s.2,i)],List.take np P++[bI (rO y)],List.take nh H++[jz (y.node,x.s)],L,true,i,rfl,⟨ic,hR.nl.trans (by rw[hR.l,zaa]),by have:=hR.nl;have:=kq.2.2.2;omega⟩,fun bt L' mv=>ak (by omega) (hn ((fun k'=>bif D.nZ (bB y.node) k' then some (.bool y.dir) else d k'),(bif (d (bB y.node)).isSome then n else n+1),na+1,np+1,nh+1,bt,List.take na A++[bB (x.s.1,x.s.2,i)],List.take np P++[bI (rO y)],List.take nh H++[jz (y.node,x.s)],L') _ rfl ⟨hc,by rw[kC];exact(hR.go U5 mv).1 (by simp[fO,gm]) (by simp[gj,gm]),by rw[NG];exact hD.mk gm⟩)⟩)))
   |false=>
    simp only[zbS,zbn]
    exact ao (ec hR.na (by rw[hR.a,zaa]) (by have:=kq.2.1;omega) (by decide)) (ao (ec hR.np (by rw[hR.p,zaa]) (by have:=kq.1;have:=kq.2.1;omega) (by decide)) (⟨x,y,g,o,f,c,(fun k'=>bif D.nZ (bB y.node) k' then some (.bool y.dir) else d k'),(bif (d (bB y.node)).isSome then n else n+1),na+1,np+1,nh,nl,List.take na A++[bB (x.s.1,x.s.2,i)],List.take np P++[bI (rO y)],H,L,false,i,rfl,⟨ic,hR.nl.trans (by rw[hR.l,zaa]),by have:=hR.nl;have:=kq.2.2.2;omega⟩,fun bt L' mv=>ak (by omega) (hn ((fun k'=>bif D.nZ (bB y.node) k' then some (.bool y.dir) else d k'),(bif (d (bB y.node)).isSome then n else n+1),na+1,np+1,nh,bt,List.take na A++[bB (x.s.1,x.s.2,i)],List.take np P++[bI (rO y)],H,L') _ rfl ⟨hc,by rw[kC];exact(hR.go U5 mv).2.1 (by simp[fO,gm]) (by simp[gj,gm]),by rw[NG];exact hD.mk gm⟩)⟩))
  ·by_cases fW:y.kind=1
   ·rw[show(y.kind==0)=false by simp[gm],show(y.kind==1)=true by simp[fW],show(y.kind !=2)=true by simp[fW]]
    cases on with
    |true=>
     simp only[zbS,zbn]
     exact ao (ec hR.na (by rw[hR.a,zaa]) (by have:=kq.2.1;omega) (by decide)) (ao (ec hR.np (by rw[hR.p,zaa]) (by have:=kq.1;have:=kq.2.1;omega) (by decide)) (ao (ec hR.nh (by rw[hR.h,zaa]) (by have:=kq.2.2.1;omega) (by decide)) (⟨x,y,g,o,f,c,d,n,na+1,np+1,nh+1,nl,List.take na A++[bB (x.s.1,x.s.2,i)],List.take np P++[bI (rO y)],List.take nh H++[jz (y.node,x.s)],L,true,i,rfl,⟨ic,hR.nl.trans (by rw[hR.l,zaa]),by have:=hR.nl;have:=kq.2.2.2;omega⟩,fun bt L' mv=>ak (by omega) (hn (d,n,na+1,np+1,nh+1,bt,List.take na A++[bB (x.s.1,x.s.2,i)],List.take np P++[bI (rO y)],List.take nh H++[jz (y.node,x.s)],L') _ rfl ⟨hc,by rw[kC];exact(hR.go U5 mv).1 (by simp[fO,fW]) (by simp[gj,fW]),by rw[NG];exact hD.no gm⟩)⟩)))
    |false=>
     simp only[zbS,zbn]
     exact⟨x,y,g,o,f,c,d,n,na,np,nh,nl,A,P,H,L,false,i,rfl,⟨ic,hR.nl.trans (by rw[hR.l,zaa]),by have:=hR.nl;have:=kq.2.2.2;omega⟩,fun bt L' mv=>ak (by omega) (hn (d,n,na,np,nh,bt,A,P,H,L') _ rfl ⟨hc,by rw[kC];exact(hR.go U5 mv).2.2.2 (by simp[fO,fW]) (by simp[gj,fW]),by rw[NG];exact hD.no gm⟩)⟩
   ·by_cases rY:y.kind=2
    ·rw[show(y.kind==0)=false by simp[gm],show(y.kind==1)=false by simp[fW],show(y.kind !=2)=false by simp[rY]]
     cases on with
     |true=>
      simp only[zbn]
      exact⟨x,y,g,o,f,c,d,n,na,np,nh,nl,A,P,H,L,true,i,rfl,⟨ic,hR.nl.trans (by rw[hR.l,zaa]),by have:=hR.nl;have:=kq.2.2.2;omega⟩,fun bt L' mv=>ak (by omega) (hn (d,n,na,np,nh,bt,A,P,H,L') _ rfl ⟨hc,by rw[kC];exact(hR.go U5 mv).2.2.2 (by simp[fO,rY]) (by simp[gj,rY]),by rw[NG];exact hD.no gm⟩)⟩
     |false=>
      simp only[zbn]
      exact⟨x,y,g,o,f,c,d,n,na,np,nh,nl,A,P,H,L,false,i,rfl,⟨ic,hR.nl.trans (by rw[hR.l,zaa]),by have:=hR.nl;have:=kq.2.2.2;omega⟩,fun bt L' mv=>ak (by omega) (hn (d,n,na,np,nh,bt,A,P,H,L') _ rfl ⟨hc,by rw[kC];exact(hR.go U5 mv).2.2.2 (by simp[fO,rY]) (by simp[gj,rY]),by rw[NG];exact hD.no gm⟩)⟩
    ·rw[show(y.kind==0)=false by simp[gm],show(y.kind==1)=false by simp[fW],show(y.kind !=2)=true by simp[rY]]
     cases on with
     |true=>
      simp only[zbn]
      exact ao (ec hR.nh (by rw[hR.h,zaa]) (by have:=kq.2.2.1;omega) (by decide)) (⟨x,y,g,o,f,c,d,n,na,np,nh+1,nl,A,P,List.take nh H++[jz (y.node,x.s)],L,true,i,rfl,⟨ic,hR.nl.trans (by rw[hR.l,zaa]),by have:=hR.nl;have:=kq.2.2.2;omega⟩,fun bt L' mv=>ak (by omega) (hn (d,n,na,np,nh+1,bt,A,P,List.take nh H++[jz (y.node,x.s)],L') _ rfl ⟨hc,by rw[kC];exact(hR.go U5 mv).2.2.1 (by simp[fO,gm,fW]) (by simp[gj,rY]),by rw[NG];exact hD.no gm⟩)⟩)
     |false=>
      simp only[zbn]
      exact⟨x,y,g,o,f,c,d,n,na,np,nh,nl,A,P,H,L,false,i,rfl,⟨ic,hR.nl.trans (by rw[hR.l,zaa]),by have:=hR.nl;have:=kq.2.2.2;omega⟩,fun bt L' mv=>ak (by omega) (hn (d,n,na,np,nh,bt,A,P,H,L') _ rfl ⟨hc,by rw[kC];exact(hR.go U5 mv).2.2.2 (by simp[fO,gm]) (by simp[gj]),by rw[NG];exact hD.no gm⟩)⟩)
 (by
  rintro⟨x,g,o,f,c,on,t,N,e⟩ ⟨d,n,na,np,nh,nl,A,P,H,L⟩ i post hi ⟨hc,hR,hD⟩ ho
  dsimp only at*
  (rw[<-qa7];delta bO YE iB gK iU gN Zg jB Rb Rc Re Z9X Za0 BJ eu BK fu tE Za9 Xh Xi Xj mZ jg jh lW oC jC DC Ts YF Zt ZE Z9U Vr Zn Za Z9 Zj qY Ra vG vH vI zg z7 zh z8 Aa lj zi zj zk zl zm ug uh ui vJ Vp r8 eY D8 eT D9 eU fJ Z7 nb rS vg iu iv r9 gh iw ig bT eW Vs Z5T Lt Lu Lv dK eK dL cP dM Za1 vr yU Vt Vu Ol Om Rf)
  rw[zak] at hR hD
  exact lK (by simp only[zaa];omega) (ho _ (fun h=>by cases h) ⟨d,n,na,np,nh,nl,A,P,H,L,hR,hD,rfl⟩))
 (by
  rintro s post ⟨x,g,o,f,c,d,n,na,np,nh,nl,A,P,H,L,on,t,N,e,hs,⟨h1,h2,h3⟩,hp⟩
  refine⟨⟨x,g,o,f,c,on,t,N,e⟩,(d,n,na,np,nh,nl,A,P,H,L),hs,⟨h3,h1,h2⟩,?_⟩
  rintro z ⟨d',n',oI,oJ,oK,bt,A',P',H',L',g1,g2,rfl⟩
  exact hp d' n' oI oJ oK bt A' P' H' L' g1 g2)
end
def ni (x:Td):D:= .agg [iE x.1.1,iE x.1.2.1,iE x.1.2.2,iE x.2.1.1,iE x.2.1.2.1,iE x.2.1.2.2,iE x.2.2.1.1,iE x.2.2.1.2.1,iE x.2.2.1.2.2,.str x.2.2.2.1,.bool x.2.2.2.2]
abbrev qD (z:Bool) (l:List Td):Obj:= .arr 155 z (l.map ni)
abbrev rsA (a:List au) (l:List Pl) (s:List Td) (i:Int):S:=⟨93,[(0,cO a),(1,eG l),(5,.sl 0 0 s.length),(6,iD i)],[(0,⟨0,none,qD false s⟩)]⟩
abbrev rsB (a:List au) (l:List Pl) (s:List Td) (i:Int) (h:Bool) (k:Int):S:=⟨93,[(0,cO a),(1,eG l),(5,.sl 0 0 s.length),(6,iD i),(7,.d (.bool h)),(8,iD k)],[(0,⟨0,none,qD false s⟩)]⟩
abbrev rsC (a:List au) (l:List Pl) (s:List Td) (n:Nat) (i k:Int):S:=⟨93,[(0,cO a),(1,eG l),(5,.sl 0 0 n),(6,iD i),(9,iD k)],[(0,⟨0,none,qD false s⟩)]⟩
def rT (s:List Td) (k:Int):D:=D.nth (List.map ni s) (Zg k)
def Vv (k:Int) (s:List Td):Bool:=decide (Zg k<List.length (List.map ni s))
def Ea (s:List Td):Nat×En:=(0,En.mk 0 none (Obj.arr (155:TypeId) false (List.map ni s)))
def Vw (s:List Td):List (Nat×En):=[Ea s]
def JF (s:List Td):Nat×P:=(5,P.sl 0 0 (List.length s))
def Eb (l:List Pl):Nat×P:=(1,lB l)
theorem qa8 (a:List au) (l:List Pl) (s:List Td) (i:Int) (h:Bool) (k:Int) (post:PX×S->Prop):(bif decide (k<(↑(List.length s):Int)) then bif h then bif Zj k then post (PX.normal,S.mk 93 (Dv a::Eb l::JF s::ZK i::(7,ZO)::qz k) (Vw s)) else False else bif decide ((0:Int)<=k/\k<(↑(List.length s):Int)) then bif Vv k s then bif cC PR (155:TypeId) (rT s k) then bif MX i a then bif wz a i then bif Zj k then post (PX.normal,S.mk 93 (Dv a::Eb l::JF s::ZK i::(7,P.d (D.bool (D.ah (D.aq (rT s k) 0)==I1 a i&&(D.ah (D.aq (rT s k) 1)==I0 a i&&true)&&(D.ah (D.aq (rT s k) 2)==IZ a i&&true))))::qz k) (Vw s)) else False else False else False else False else False else False else post (PX.exit 2,S.mk 93 [Dv a,Eb l,JF s,ZK i,vo h] (Vw s)))=(aD [] [] 85 7 (rsB a l s i h k)) post:=by kernel_rfl
def qdQ:S->K (PX×S):=fun s post=> ∃(a:List au) (l:List Pl) (t:List Td) (i:Int) (hi:i.toNat<a.length),s=rsB a l t i false 0/\(t.length<=1000000/\0<=i/\i<a.length)/\ ∀b,b=(t.any fun x=>x.1==a[i.toNat])->post (.exit 2,⟨93,[(0,cO a),(1,eG l),(5,.sl 0 0 t.length),(6,iD i),(7,.d (.bool b))],[(0,⟨0,none,qD false t⟩)]⟩)
def Zao (s:List Td) (k:Int):D:=D.int .i64 (D.ah (D.aq (rT s k) 8))
def Zan (s:List Td) (k:Int):D:=D.int .i64 (D.ah (D.aq (rT s k) 7))
def Zam (s:List Td) (k:Int):D:=D.int .i64 (D.ah (D.aq (rT s k) 6))
def Zal (s:List Td) (k:Int):D:=D.int .i64 (D.ah (D.aq (rT s k) 5))
def Zak (s:List Td) (k:Int):D:=D.int .i64 (D.ah (D.aq (rT s k) 4))
def Zaj (s:List Td) (k:Int):D:=D.int .i64 (D.ah (D.aq (rT s k) 3))
def Zap (s:List Td) (k:Int):List D:=[Zaj s k,Zak s k,Zal s k,Zam s k,Zan s k,Zao s k,D.str (D.eI (D.aq (rT s k) 9)),D.bool (D.e7 (D.aq (rT s k) 10))]
def Zaq (s:List Td) (k:Int):List D:=D.int .i64 (D.ah (D.aq (rT s k) 0))::D.int .i64 (D.ah (D.aq (rT s k) 1))::D.int .i64 (D.ah (D.aq (rT s k) 2))::Zap s k
def Gz (s:List Td) (k:Int):D:=D.nth (List.map ni s) (Zc k)
def Zar (s:List Td) (k:Int):List D:=List.set (List.map ni s) (Zg k) (D.aV (D.agg (Zaq s k)) [D.int .i64 (D.ah (D.aq (Gz s k) 0)),D.int .i64 (D.ah (D.aq (Gz s k) 1)),D.int .i64 (D.ah (D.aq (Gz s k) 2)),D.int .i64 (D.ah (D.aq (Gz s k) 3)),D.int .i64 (D.ah (D.aq (Gz s k) 4)),D.int .i64 (D.ah (D.aq (Gz s k) 5)),D.int .i64 (D.ah (D.aq (Gz s k) 6)),D.int .i64 (D.ah (D.aq (Gz s k) 7)),D.int .i64 (D.ah (D.aq (Gz s k) 8)),D.str (D.eI (D.aq (Gz s k) 9)),D.bool (D.e7 (D.aq (Gz s k) 10))])
def NH (s:List Td) (k:Int):D:=D.nth (Zar s k) (Zc k)
theorem qgH (a:List au) (l:List Pl) (s:List Td) (n:Nat) (i k:Int) (post:PX×S->Prop):(bif Zr k then bif my k n then bif Vv k s then bif cC PR (155:TypeId) (rT s k) then bif Zb k then bif wH k n then bif decide (Zc k<List.length (List.map ni s)) then bif cC PR (155:TypeId) (Gz s k) then∃(t:Int) (r:Int) (aG:Int) (t':Int) (r':Int) (i':Int),[P.d (D.agg [D.int .i64 (D.ah (D.aq (rT s k) 0)),D.int .i64 (D.ah (D.aq (rT s k) 1)),D.int .i64 (D.ah (D.aq (rT s k) 2))]),P.d (D.agg [D.int .i64 (D.ah (D.aq (Gz s k) 0)),D.int .i64 (D.ah (D.aq (Gz s k) 1)),D.int .i64 (D.ah (D.aq (Gz s k) 2))])]=Sq t r aG t' r' i'/\Zx/\bif Sp t r aG t' r' i' then bif Zb k then bif Zb k then bif wH k n then bif decide (Zc k<List.length (List.map ni s)) then bif cC PR (155:TypeId) (Gz s k) then bif my k n then bif Vv k s then bif cC PR (155:TypeId) (rT s k) then bif my k n then bif Vv k s then bif cC PR (155:TypeId) (rT s k) then bif wH k n then bif decide (Zc k<List.length (Zar s k)) then bif cC PR (155:TypeId) (NH s k) then bif Zb k then post (PX.normal,S.mk 93 (Dv a::Eb l::ZC n::ZK i::Z7Q k) [(0,En.mk 0 none (Obj.arr (155:TypeId) false (List.set (Zar s k) (Zc k) (D.aV (D.agg [D.int .i64 (D.ah (D.aq (NH s k) 0)),D.int .i64 (D.ah (D.aq (NH s k) 1)),D.int .i64 (D.ah (D.aq (NH s k) 2)),D.int .i64 (D.ah (D.aq (NH s k) 3)),D.int .i64 (D.ah (D.aq (NH s k) 4)),D.int .i64 (D.ah (D.aq (NH s k) 5)),D.int .i64 (D.ah (D.aq (NH s k) 6)),D.int .i64 (D.ah (D.aq (NH s k) 7)),D.int .i64 (D.ah (D.aq (NH s k) 8)),D.str (D.eI (D.aq (NH s k) 9)),D.bool (D.e7 (D.aq (NH s k) 10))]) (Zaq s k)))))]) else False else False else False else False else False else False else False else False else False else False else False else False else False else False else False else post (PX.exit 4,S.mk 93 (Dv a::Eb l::ZC n::Jy i) (Vw s)) else False else False else False else False else False else False else False else post (PX.exit 4,S.mk 93 (Dv a::Eb l::ZC n::Jy i) (Vw s)))=(aD [(88,iR)] [] 85 13 (rsC a l s n i k)) post:=by kernel_rfl
def qdR:S->K (PX×S):=fun s post=> ∃a l t x n i k,s=rsC a l (t++[x]) n i k/\(k=(t.length:Int)/\n=t.length+1/\t.length<=1000000)/\ ∀t',t'=cJ ltT t x->post (.exit 4,rsA a l t' i)
theorem qa9 (a:List au) (l:List Pl) (s:List Td) (i:Int) (post:PX×S->Prop):(bif decide (i<(↑(List.length (List.map bB a)):Int)) then bif decide (i<(↑(List.length (List.map bI l)):Int)) then∃(kF:List au),∃(ar:List Pl),∃(t:List Td),∃(aG:Int),∃(hi:Int.toNat aG<List.length kF),S.mk 93 [(0,P.d (D.sl 3 (List.map bB a))),(1,P.d (D.sl 8 (List.map bI l))),(5,P.sl 0 0 (List.length s)),(6,P.d (D.int IntKind.i64 i)),(7,P.d (D.bool false)),(8,P.d (D.int IntKind.i64 (0:Int)))] [(0,En.mk 0 none (Obj.arr 155 false (List.map ni s)))]=S.mk 93 [(0,P.d (D.sl 3 (List.map bB kF))),(1,P.d (D.sl 8 (List.map bI ar))),(5,P.sl 0 0 (List.length t)),(6,P.d (D.int IntKind.i64 aG)),(7,P.d (D.bool false)),(8,P.d (D.int IntKind.i64 (0:Int)))] [(0,En.mk 0 none (Obj.arr 155 false (List.map ni t)))]/\(List.length t<=1000000/\(0:Int)<=aG/\aG<(↑(List.length kF):Int))/\ ∀(b:Bool),(b=List.any t fun(x:Td)=>Prod.fst x==kF[Int.toNat aG])->bif b then bif decide ((-9223372036854775808:Int)<=aG+(1:Int)/\aG+(1:Int)<=(9223372036854775807:Int)) then post (PX.normal,S.mk 93 [(0,P.d (D.sl 3 (List.map bB kF))),(1,P.d (D.sl 8 (List.map bI ar))),(5,P.sl 0 0 (List.length t)),(6,P.d (D.int IntKind.i64 (aG+(1:Int))))] [(0,En.mk 0 none (Obj.arr 155 false (List.map ni t)))]) else False else bif decide ((0:Int)<=aG/\aG<(↑(List.length (List.map bB kF)):Int)) then bif cC PR 50 (D.nth (List.map bB kF) (Int.toNat aG)) then bif decide ((0:Int)<=aG/\aG<(↑(List.length (List.map bI ar)):Int)) then bif cC PR 104 (D.nth (List.map bI ar) (Int.toNat aG)) then bif Nat.ble (List.length t) (List.length (List.map ni t))&&aN (List.length t+List.length [D.agg [D.int IntKind.i64 (D.ah (D.aq (D.nth (List.map bB kF) (Int.toNat aG)) 0)),D.int IntKind.i64 (D.ah (D.aq (D.nth (List.map bB kF) (Int.toNat aG)) 1)),D.int IntKind.i64 (D.ah (D.aq (D.nth (List.map bB kF) (Int.toNat aG)) 2)),D.int IntKind.i64 (D.ah (D.aq (D.nth (List.map bI ar) (Int.toNat aG)) 0)),D.int IntKind.i64 (D.ah (D.aq (D.nth (List.map bI ar) (Int.toNat aG)) 1)),D.int IntKind.i64 (D.ah (D.aq (D.nth (List.map bI ar) (Int.toNat aG)) 2)),D.int IntKind.i64 (D.ah (D.aq (D.nth (List.map bI ar) (Int.toNat aG)) 3)),D.int IntKind.i64 (D.ah (D.aq (D.nth (List.map bI ar) (Int.toNat aG)) 4)),D.int IntKind.i64 (D.ah (D.aq (D.nth (List.map bI ar) (Int.toNat aG)) 5)),D.str (D.eI (D.aq (D.nth (List.map bI ar) (Int.toNat aG)) 6)),D.bool (D.e7 (D.aq (D.nth (List.map bI ar) (Int.toNat aG)) 7))]]) 96 then bif decide ((-9223372036854775808:Int)<=(↑(List.length t+List.length [D.agg [D.int IntKind.i64 (D.ah (D.aq (D.nth (List.map bB kF) (Int.toNat aG)) 0)),D.int IntKind.i64 (D.ah (D.aq (D.nth (List.map bB kF) (Int.toNat aG)) 1)),D.int IntKind.i64 (D.ah (D.aq (D.nth (List.map bB kF) (Int.toNat aG)) 2)),D.int IntKind.i64 (D.ah (D.aq (D.nth (List.map bI ar) (Int.toNat aG)) 0)),D.int IntKind.i64 (D.ah (D.aq (D.nth (List.map bI ar) (Int.toNat aG)) 1)),D.int IntKind.i64 (D.ah (D.aq (D.nth (List.map bI ar) (Int.toNat aG)) 2)),D.int IntKind.i64 (D.ah (D.aq (D.nth (List.map bI ar) (Int.toNat aG)) 3)),D.int IntKind.i64 (D.ah (D.aq (D.nth (List.map bI ar) (Int.toNat aG)) 4)),D.int IntKind.i64 (D.ah (D.aq (D.nth (List.map bI ar) (Int.toNat aG)) 5)),D.str (D.eI (D.aq (D.nth (List.map bI ar) (Int.toNat aG)) 6)),D.bool (D.e7 (D.aq (D.nth (List.map bI ar) (Int.toNat aG)) 7))]]):Int)-(1:Int)/\(↑(List.length t+List.length [D.agg [D.int IntKind.i64 (D.ah (D.aq (D.nth (List.map bB kF) (Int.toNat aG)) 0)),D.int IntKind.i64 (D.ah (D.aq (D.nth (List.map bB kF) (Int.toNat aG)) 1)),D.int IntKind.i64 (D.ah (D.aq (D.nth (List.map bB kF) (Int.toNat aG)) 2)),D.int IntKind.i64 (D.ah (D.aq (D.nth (List.map bI ar) (Int.toNat aG)) 0)),D.int IntKind.i64 (D.ah (D.aq (D.nth (List.map bI ar) (Int.toNat aG)) 1)),D.int IntKind.i64 (D.ah (D.aq (D.nth (List.map bI ar) (Int.toNat aG)) 2)),D.int IntKind.i64 (D.ah (D.aq (D.nth (List.map bI ar) (Int.toNat aG)) 3)),D.int IntKind.i64 (D.ah (D.aq (D.nth (List.map bI ar) (Int.toNat aG)) 4)),D.int IntKind.i64 (D.ah (D.aq (D.nth (List.map bI ar) (Int.toNat aG)) 5)),D.str (D.eI (D.aq (D.nth (List.map bI ar) (Int.toNat aG)) 6)),D.bool (D.e7 (D.aq (D.nth (List.map bI ar) (Int.toNat aG)) 7))]]):Int)-(1:Int)<=(9223372036854775807:Int)) then∃(a:List au),∃(l:List Pl),∃(pH:List Td),∃(x:Td),∃(n:Nat),∃(i:Int),∃(k:Int),S.mk 93 [(0,P.d (D.sl 3 (List.map bB kF))),(1,P.d (D.sl 8 (List.map bI ar))),(5,P.sl 0 0 (List.length t+List.length [D.agg [D.int IntKind.i64 (D.ah (D.aq (D.nth (List.map bB kF) (Int.toNat aG)) 0)),D.int IntKind.i64 (D.ah (D.aq (D.nth (List.map bB kF) (Int.toNat aG)) 1)),D.int IntKind.i64 (D.ah (D.aq (D.nth (List.map bB kF) (Int.toNat aG)) 2)),D.int IntKind.i64 (D.ah (D.aq (D.nth (List.map bI ar) (Int.toNat aG)) 0)),D.int IntKind.i64 (D.ah (D.aq (D.nth (List.map bI ar) (Int.toNat aG)) 1)),D.int IntKind.i64 (D.ah (D.aq (D.nth (List.map bI ar) (Int.toNat aG)) 2)),D.int IntKind.i64 (D.ah (D.aq (D.nth (List.map bI ar) (Int.toNat aG)) 3)),D.int IntKind.i64 (D.ah (D.aq (D.nth (List.map bI ar) (Int.toNat aG)) 4)),D.int IntKind.i64 (D.ah (D.aq (D.nth (List.map bI ar) (Int.toNat aG)) 5)),D.str (D.eI (D.aq (D.nth (List.map bI ar) (Int.toNat aG)) 6)),D.bool (D.e7 (D.aq (D.nth (List.map bI ar) (Int.toNat aG)) 7))]])),(6,P.d (D.int IntKind.i64 aG)),(9,P.d (D.int IntKind.i64 ((↑(List.length t+List.length [D.agg [D.int IntKind.i64 (D.ah (D.aq (D.nth (List.map bB kF) (Int.toNat aG)) 0)),D.int IntKind.i64 (D.ah (D.aq (D.nth (List.map bB kF) (Int.toNat aG)) 1)),D.int IntKind.i64 (D.ah (D.aq (D.nth (List.map bB kF) (Int.toNat aG)) 2)),D.int IntKind.i64 (D.ah (D.aq (D.nth (List.map bI ar) (Int.toNat aG)) 0)),D.int IntKind.i64 (D.ah (D.aq (D.nth (List.map bI ar) (Int.toNat aG)) 1)),D.int IntKind.i64 (D.ah (D.aq (D.nth (List.map bI ar) (Int.toNat aG)) 2)),D.int IntKind.i64 (D.ah (D.aq (D.nth (List.map bI ar) (Int.toNat aG)) 3)),D.int IntKind.i64 (D.ah (D.aq (D.nth (List.map bI ar) (Int.toNat aG)) 4)),D.int IntKind.i64 (D.ah (D.aq (D.nth (List.map bI ar) (Int.toNat aG)) 5)),D.str (D.eI (D.aq (D.nth (List.map bI ar) (Int.toNat aG)) 6)),D.bool (D.e7 (D.aq (D.nth (List.map bI ar) (Int.toNat aG)) 7))]]):Int)-(1:Int))))] [(0,En.mk 0 none (Obj.arr 155 false (List.take (List.length t) (List.map ni t)++[D.agg [D.int IntKind.i64 (D.ah (D.aq (D.nth (List.map bB kF) (Int.toNat aG)) 0)),D.int IntKind.i64 (D.ah (D.aq (D.nth (List.map bB kF) (Int.toNat aG)) 1)),D.int IntKind.i64 (D.ah (D.aq (D.nth (List.map bB kF) (Int.toNat aG)) 2)),D.int IntKind.i64 (D.ah (D.aq (D.nth (List.map bI ar) (Int.toNat aG)) 0)),D.int IntKind.i64 (D.ah (D.aq (D.nth (List.map bI ar) (Int.toNat aG)) 1)),D.int IntKind.i64 (D.ah (D.aq (D.nth (List.map bI ar) (Int.toNat aG)) 2)),D.int IntKind.i64 (D.ah (D.aq (D.nth (List.map bI ar) (Int.toNat aG)) 3)),D.int IntKind.i64 (D.ah (D.aq (D.nth (List.map bI ar) (Int.toNat aG)) 4)),D.int IntKind.i64 (D.ah (D.aq (D.nth (List.map bI ar) (Int.toNat aG)) 5)),D.str (D.eI (D.aq (D.nth (List.map bI ar) (Int.toNat aG)) 6)),D.bool (D.e7 (D.aq (D.nth (List.map bI ar) (Int.toNat aG)) 7))]])))]=S.mk 93 [(0,P.d (D.sl 3 (List.map bB a))),(1,P.d (D.sl 8 (List.map bI l))),(5,P.sl 0 0 n),(6,P.d (D.int IntKind.i64 i)),(9,P.d (D.int IntKind.i64 k))] [(0,En.mk 0 none (Obj.arr 155 false (List.map ni (pH++[x]))))]/\(k=(↑(List.length pH):Int)/\n=List.length pH+1/\List.length pH<=1000000)/\ ∀(t':List Td),t'=cJ ltT pH x->bif decide ((-9223372036854775808:Int)<=i+(1:Int)/\i+(1:Int)<=(9223372036854775807:Int)) then post (PX.normal,S.mk 93 [(0,P.d (D.sl 3 (List.map bB a))),(1,P.d (D.sl 8 (List.map bI l))),(5,P.sl 0 0 (List.length t')),(6,P.d (D.int IntKind.i64 (i+(1:Int))))] [(0,En.mk 0 none (Obj.arr 155 false (List.map ni t')))]) else False else False else False else False else False else False else False else post (PX.exit 0,S.mk 93 [(5,P.sl 0 0 (List.length s))] [(0,En.mk 0 none (Obj.arr 155 false (List.map ni s)))]) else post (PX.exit 0,S.mk 93 [(5,P.sl 0 0 (List.length s))] [(0,En.mk 0 none (Obj.arr 155 false (List.map ni s)))]))=(aD [] [(7,ae (aL 85 7) qdQ),(13,ae (aL 85 13) qdR)] 85 3 (rsA a l s i)) post:=by kernel_rfl
def qdS:S->K (PX×S):=fun s post=> ∃a l,s=rsA a l [] 0/\(a.length<=1000000/\l.length=a.length)/\ ∀t,t=Jx a l->post (.exit 0,⟨93,[(5,.sl 0 0 t.length)],[(0,⟨0,none,qD false t⟩)]⟩)
def Zat (a:List au) (l:List Pl):S:=S.mk 93 (Dv a::Eb l::SL) [(0,En.mk 0 none (Obj.arr (155:TypeId) false []))]
theorem qgI (a:List au) (l:List Pl) (post:P×List (Nat×En)->Prop):(∃(kF:List au) (ar:List Pl),Zat a l=Zat kF ar/\(pS kF/\jR ar=ia kF)/\ ∀(t:List Td),t=Jx kF ar->post (P.sl 0 0 (List.length t),Vw t))=(aJ [] [(3,ae (aL 85 3) qdS)] 85 [cO a,eG l] []) post:=by kernel_rfl
def qdT:bq:=fun ps R post=> ∃a l,ps=[cO a,eG l]/\R=[]/\(a.length<=1000000/\l.length=a.length)/\ ∀t,t=Jx a l->post (.sl 0 0 t.length,[(0,⟨0,none,qD false t⟩)])
def qdU:bq:=fun ps R post=> ∃l x y,ps=[.sl 0 0 l.length,.d (bB x),.d (bB y)]/\R=BA false l/\l.length<=1000000/\ ∀b,b=within l x y->post (.d (.bool b),BA false l)
abbrev rpA (t:List Td) (o:List Pl) (i:Int):S:=⟨96,[(5,.sl 0 0 t.length),(6,.sl 1 0 o.length),(7,iD i)],[(0,⟨0,none,qD false t⟩),(1,⟨0,none,pT false o⟩)]⟩
abbrev rpB (t:List Td) (o:List Pl) (m:Nat) (i k:Int):S:=⟨96,[(5,.sl 0 0 t.length),(6,.sl 1 0 m),(7,iD i),(10,iD k)],[(0,⟨0,none,qD false t⟩),(1,⟨0,none,pT false o⟩)]⟩
def Zax (post:PX×S->Prop) (t:List Td) (m:Nat) (i:Int) (o:List Pl):Prop:=post (PX.exit 2,S.mk 96 [JF t,Ju m,rR i] (Ea t::Gp o))
def Lw (o:List Pl) (k:Int):D:=D.nth (im o) (Zc k)
def Zav (o:List Pl) (k:Int):List D:=List.set (im o) (Zg k) (D.aV (D.agg (X2 o k)) [D.int .i64 (D.ah (D.aq (Lw o k) 0)),D.int .i64 (D.ah (D.aq (Lw o k) 1)),D.int .i64 (D.ah (D.aq (Lw o k) 2)),D.int .i64 (D.ah (D.aq (Lw o k) 3)),D.int .i64 (D.ah (D.aq (Lw o k) 4)),D.int .i64 (D.ah (D.aq (Lw o k) 5)),D.str (D.eI (D.aq (Lw o k) 6)),D.bool (D.e7 (D.aq (Lw o k) 7))])
def Vx (o:List Pl) (k:Int):D:=D.nth (Zav o k) (Zc k)
theorem qgJ (t:List Td) (o:List Pl) (m:Nat) (i k:Int) (post:PX×S->Prop):(bif Zr k then bif my k m then bif Hc k o then bif qy o k then bif Zb k then bif wH k m then bif decide (Zc k<r5 o) then bif cC PR (104:TypeId) (Lw o k) then∃(pH:Int) (r:Int) (aG:Int) (t':Int) (r':Int) (i':Int),[Jq o k,P.d (D.agg [D.int .i64 (D.ah (D.aq (Lw o k) 0)),D.int .i64 (D.ah (D.aq (Lw o k) 1)),D.int .i64 (D.ah (D.aq (Lw o k) 2))])]=Sq pH r aG t' r' i'/\Zx/\bif Sp pH r aG t' r' i' then bif Zb k then bif Zb k then bif wH k m then bif decide (Zc k<r5 o) then bif cC PR (104:TypeId) (Lw o k) then bif my k m then bif Hc k o then bif qy o k then bif my k m then bif Hc k o then bif qy o k then bif wH k m then bif decide (Zc k<List.length (Zav o k)) then bif cC PR (104:TypeId) (Vx o k) then bif Zb k then post (PX.normal,S.mk 96 (JF t::Ju m::rR i::Z8J k) [Ea t,(1,En.mk 0 none (Obj.arr (104:TypeId) false (List.set (Zav o k) (Zc k) (D.aV (D.agg [D.int .i64 (D.ah (D.aq (Vx o k) 0)),D.int .i64 (D.ah (D.aq (Vx o k) 1)),D.int .i64 (D.ah (D.aq (Vx o k) 2)),D.int .i64 (D.ah (D.aq (Vx o k) 3)),D.int .i64 (D.ah (D.aq (Vx o k) 4)),D.int .i64 (D.ah (D.aq (Vx o k) 5)),D.str (D.eI (D.aq (Vx o k) 6)),D.bool (D.e7 (D.aq (Vx o k) 7))]) (X2 o k)))))]) else False else False else False else False else False else False else False else False else False else False else False else False else False else False else False else Zax post t m i o else False else False else False else False else False else False else False else Zax post t m i o)=(aD [(88,iR)] [] 55 14 (rpB t o m i k)) post:=by kernel_rfl
def qdV:S->K (PX×S):=fun s post=> ∃t o x m i k,s=rpB t (o++[x]) m i k/\(k=(o.length:Int)/\m=o.length+1/\o.length<=1000000)/\ ∀o',o'=cJ ltN o x->post (.exit 2,rpA t o' i)
def ZaA (o:List Pl) (t:List Td) (i:Int):Nat:=jR o+List.length [D.agg (Zap t i)]
def Zaz (t:List Td) (i:Int):List P:=[P.d (D.agg [Zaj t i,Zak t i,Zal t i])]
def Zay (t:List Td) (o:List Pl) (i:Int):List (Nat×P):=JF t::(6,P.sl 1 0 (jR o))::ZL i
theorem qba (t:List Td) (o:List Pl) (i:Int) (post:PX×S->Prop):(bif decide (i<(↑(List.length t):Int)) then bif decide ((0:Int)<=i/\i<(↑(List.length t):Int)) then bif Vv i t then bif cC PR (155:TypeId) (rT t i) then bif D.ah (D.aq (rT t i) 3)==(0:Int)&&(D.ah (D.aq (rT t i) 4)==(0:Int)&&true)&&(D.ah (D.aq (rT t i) 5)==(0:Int)&&true) then bif Zj i then post (PX.normal,S.mk 96 (Zay t o i) (Ea t::Gp o)) else False else∃(l:List Pl) (x:au) (y:au),s6 o::P.d (D.agg [Zam t i,Zan t i,Zao t i])::Zaz t i=s6 l::uf x::iV y/\X3 o=X3 l/\nW l/\ ∀(b:Bool),b=within l x y->bif b then bif Zj i then post (PX.normal,S.mk 96 (Zay t o i) (Ea t::Gp l)) else False else∃(ar:List Pl) (x:au),s6 o::Zaz t i=s6 ar::iV x/\X3 l=X3 ar/\nW ar/\bif decide (eM ar x>=(0:Int)) then bif decide ((0:Int)<=eM ar x/\eM ar x<(↑(jR o):Int)) then bif Z6W ar x then bif cC PR (104:TypeId) (D4 ar x) then bif decide ((0:Int)<=eM ar x/\eM ar x<(↑(jR o):Int)) then bif Z6W ar x then bif cC PR (104:TypeId) (D4 ar x) then bif Zj i then post (PX.normal,S.mk 96 (Zay t o i) [Ea t,(1,En.mk 0 none (Obj.arr (104:TypeId) false (List.set (im ar) (Int.toNat (eM ar x)) (D.aV (D.agg [D.int .i64 (D.ah (D.aq (D4 ar x) 0)),D.int .i64 (D.ah (D.aq (D4 ar x) 1)),D.int .i64 (D.ah (D.aq (D4 ar x) 2)),D.int .i64 (D.ah (D.aq (D4 ar x) 3)),D.int .i64 (D.ah (D.aq (D4 ar x) 4)),D.int .i64 (D.ah (D.aq (D4 ar x) 5)),D.str (D.eI (D.aq (D4 ar x) 6)),D.bool (D.e7 (D.aq (D4 ar x) 7))]) [Zaj t i,Zak t i,Zal t i,Zam t i,Zan t i,Zao t i,D.str (D.eI (D.aq (rT t i) 9)),D.bool (D.e7 (D.aq (D4 ar x) 7))]))))]) else False else False else False else False else False else False else False else bif Nat.ble (jR o) (r5 ar)&&aN (ZaA o t i) 72 then bif decide (Z9<=(↑(ZaA o t i):Int)-(1:Int)/\(↑(ZaA o t i):Int)-(1:Int)<=Za) then∃(pH:List Td) (aP:List Pl) (x:Pl) (m:Nat) (aG:Int) (k:Int),S.mk 96 [JF t,(6,P.sl 1 0 (ZaA o t i)),rR i,(10,P.d (D.int .i64 ((↑(ZaA o t i):Int)-(1:Int))))] [Ea t,(1,En.mk 0 none (Obj.arr (104:TypeId) false (List.take (jR o) (im ar)++[D.agg (Zap t i)])))]=S.mk 96 [JF pH,Ju m,rR aG,(10,P.d (Zt k))] [Ea pH,(1,En.mk 0 none (Obj.arr (104:TypeId) false (List.map bI (aP++[x]))))]/\(k=(↑(jR aP):Int)/\m=jR aP+1/\nW aP)/\ ∀(o':List Pl),o'=cJ ltN aP x->bif Zj aG then post (PX.normal,S.mk 96 (Zay pH o' aG) (Ea pH::Gp o')) else False else False else False else False else False else False else post (PX.exit 0,S.mk 96 [(6,s6 o)] (He o)))=(aD [(86,qdU),(87,Gm)] [(14,ae (aL 55 14) qdV)] 55 4 (rpA t o i)) post:=by kernel_rfl
def qdW:S->K (PX×S):=fun s post=> ∃t,s=rpA t [] 0/\t.length<=1000000/\ ∀o,o=Nu t->post (.exit 0,⟨96,[(6,.sl 0 0 o.length)],[(0,⟨0,none,pT false o⟩)]⟩)
def ZaB (t:List Td):S:=S.mk 96 (JF t::Z7V) [Ea t,(1,zs)]
theorem qiD (a:List au) (l:List Pl) (post:P×List (Nat×En)->Prop):(∃(kF:List au) (ar:List Pl),[lJ a,lB l]=[lJ kF,lB ar]/\Zx/\(pS kF/\jR ar=ia kF)/\ ∀(t:List Td),t=Jx kF ar-> ∃(pH:List Td),ZaB t=ZaB pH/\List.length pH<=1000000/\ ∀(o:List Pl),o=Nu pH->post (s6 o,He o))=(aJ [(85,qdT)] [(4,ae (aL 55 4) qdW)] 55 [cO a,eG l] []) post:=by kernel_rfl
def qdX:bq:=fun ps R post=> ∃a l,ps=[cO a,eG l]/\R=[]/\(a.length<=1000000/\l.length=a.length)/\ ∀o,o=Nu (Jx a l)->post (.sl 0 0 o.length,[(0,⟨0,none,pT false o⟩)])
end Pi
