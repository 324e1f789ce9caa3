/- The texts Ef1 Ef1H Ef2 Ef2H Ef3 Ef3H Ef4 Ef4H Ef5 Ef5H Ef6H Hi2 Hi2H Hi3 Hi3H Hi4 Hi4H Hi5 Hi5H Hi6 Hi6H Hi7 Hi7H VwP TrC T6 T6H T7 T7H T8 T8H T9 T9H RfP Rd. -/
import Derived.Test.YtngoddkencoalaaGreatDoorEby
import Derived.Lib.IndexAny
namespace Pi
open Go Go.Proofs
set_option maxRecDepth 100000
set_option maxHeartbeats 0
def bB (h:Hd):D:= .agg [iE h.1.1,iE h.1.2,iE h.2.1,iE h.2.2]
abbrev arH (z:Bool) (l:List Hd):Obj:= .arr 132 z (l.map bB)
abbrev vb (z:Bool) (l:List Hd):Obj:= .arr 139 z (l.map bB)
abbrev ph (l:List Hd):P:= .d (.sl 4 (l.map bB))
abbrev vd (l:List Hd):P:=fE (l.map (·.1))
abbrev ve (l:List Hd):P:=fE (l.map (·.2))
abbrev ehH (l out:List Hd) (f:D->Option D) (c i:Int):S:=⟨50,[(0,vd l),(1,ve l),(5,.sl 0 0 out.length),(6,.mp 1 0),(14,iD (min (((l.map (·.1)).map aX).length:Int) (((l.map (·.2)).map aX).length:Int))),(15,iD i)],[(0,⟨0,none,arH false out⟩),(1,⟨0,none,XB f c⟩)]⟩
def PH (out:List Hd):En:=En.mk 0 none (Obj.arr (132:TypeId) false (List.map bB out))
def eU (out:List Hd):Nat:=List.length out
def p8 (out:List Hd):P:=P.sl 0 0 (eU out)
def ny (l:List Hd):List D:=List.map aX (List.map (fun(x:Hd)=>Prod.fst x) l)
def Z56 (l:List Hd) (i:Int):D:=D.int IntKind.i64 (D.ah (D.ao (D.nth (ny l) (Zg i)) 0))
def PI (l:List Hd) (i:Int):D:=D.agg [Z56 l i,D.int IntKind.i64 (D.ah (D.ao (D.nth (ny l) (Zg i)) 1))]
def Z5g (l:List Hd) (i:Int):D:=D.agg [Z56 l i,D.int IntKind.i64 (D.ah (D.ao (D.nth (ny l) (Zg i)) (0+1)))]
def Z5h (l:List Hd) (i:Int) (f:D->Option D) (c:Int):List (Nat×En):=[(1,En.mk 0 none (Obj.map 30 (fun(k':D)=>bif D.nD (Z5g l i) k' then some (D.int IntKind.i64 (D.ah (cm (f (Z5g l i)) Z7)+(1:Int))) else cO (Z5g l i) (cm (f (Z5g l i)) Z7) f k') (bif Option.isSome (f (PI l i)) then c else c+(1:Int)) false))]
def Cz (out:List Hd):List D:=List.take (eU out) (List.map bB out)
def pP (l:List Hd):List D:=List.map aX (List.map (fun(x:Hd)=>Prod.snd x) l)
def Sx (l:List Hd):Int:=min (↑(List.length (ny l)):Int) (↑(List.length (pP l)):Int)
def Z5e (l:List Hd) (i:Int):List (Nat×P):=[(6,P.mp 1 0),(14,P.d (D.int IntKind.i64 (Sx l))),(15,P.d (Zm i))]
def Jp (l:List Hd):Nat×P:=(1,P.d (D.sl 2 (pP l)))
def Jq (l:List Hd):Nat×P:=(0,P.d (D.sl 2 (ny l)))
def Z5b (l:List Hd) (i:Int):List D:=[D.agg [Z56 l i,D.int IntKind.i64 (D.ah (D.ao (D.nth (ny l) (Zg i)) 1)),D.int IntKind.i64 (D.ah (D.ao (D.nth (pP l) (Zg i)) 0)),D.int IntKind.i64 (D.ah (D.ao (D.nth (pP l) (Zg i)) 1))]]
def qI (out:List Hd):Nat:=List.length (List.map bB out)
def Z58 (l:List Hd) (i:Int) (f:D->Option D):D:=cm (cO (PI l i) (D.int IntKind.i64 (D.ah (cm (f (PI l i)) Z7)+(1:Int))) (cO (PI l i) (cm (f (PI l i)) Z7) f) (PI l i)) Z7
def Z55 (i:Int) (l:List Hd):Bool:=decide ((0:Int)<=i/\i<(↑(List.length (ny l)):Int))
theorem XL (l out:List Hd) (f:D->Option D) (c i:Int) (post:PX×S->Prop):(bif decide (i<Sx l) then bif Z55 i l then bif cX PR (30:TypeId) (D.nth (ny l) (Zg i)) then bif cX PR (3:TypeId) (cm (f (PI l i)) Z7) then bif decide (Z9<=D.ah (cm (f (PI l i)) Z7)+(1:Int)/\D.ah (cm (f (PI l i)) Z7)+(1:Int)<=Za) then bif Z55 i l then bif cX PR (30:TypeId) (D.nth (ny l) (Zg i)) then bif cX PR (3:TypeId) (Z58 l i f) then bif D.ah (Z58 l i f)==(1:Int) then bif Z55 i l then bif cX PR (30:TypeId) (D.nth (ny l) (Zg i)) then bif decide ((0:Int)<=i/\i<(↑(List.length (pP l)):Int)) then bif cX PR (30:TypeId) (D.nth (pP l) (Zg i)) then bif Nat.ble (eU out) (qI out)&&aT (eU out+List.length (Z5b l i)) 32 then bif Zj i then post (PX.normal,S.mk 50 (Jq l::Jp l::(5,P.sl 0 0 (eU out+List.length (Z5b l i)))::Z5e l i) ((0,En.mk 0 none (Obj.arr (132:TypeId) false (Cz out++Z5b l i)))::Z5h l i f c)) else False else False else False else False else False else False else bif Zj i then post (PX.normal,S.mk 50 (Jq l::Jp l::(5,p8 out)::Z5e l i) ((0,PH out)::Z5h l i f c)) else False else False else False else False else False else False else False else False else post (PX.exit 0,S.mk 50 [(5,p8 out)] [(0,PH out)]))=(aF [] [] 68 3 (ehH l out f c i)) post:=by kernel_rfl
def gEh:S->K (PX×S):=fun st post=> ∃l,st=ehH l [] (fun _=>none) 0 0/\l.length<=1000000/\ ∀m,m=rp l->post (.exit 0,⟨50,[(5,.sl 0 0 m.length)],[(0,⟨0,none,arH false m⟩)]⟩)
def qgm:bm:=fun ps R post=> ∃a b:Hd,ps=[.d (bB a),.d (bB b)]/\R=[]/\post (iD (oW a.1.1 a.1.2 b.1.1 b.1.2),[])
def Z5k (a:Hd):P:=P.d (D.agg [D.int IntKind.i64 (Prod.fst (Prod.fst a)),D.int IntKind.i64 (Prod.snd (Prod.fst a))])
theorem qeh (a b:Hd) (post:P×List (Nat×En)->Prop):(∃(t:Int) (r:Int) (t':Int) (r':Int),[Z5k a,Z5k b]=Hg t r t' r'/\Zw/\post (P.d (D.int IntKind.i64 (oW t r t' r')),[]))=(aH [(66,tu)] [] 103 [.d (bB a),.d (bB b)] []) post:=by kernel_rfl
def HG:bm:=PB 103 132 bB (fun h:Hd=>h.1) (fun a b=>qC a b)
def Z5n (m:List Hd):List (Nat×En):=[(0,En.mk 0 (some 0) (Obj.arr (132:TypeId) false (List.map bB m)))]
def lI (ar:List Hd):Prop:=eU ar<=1000000
def Z5l (l:List Hd):S:=S.mk 50 [Jq l,Jp l,(5,ZO),(6,P.mp 1 0),(14,P.d (D.int IntKind.i64 (Sx l))),(15,P.d Z7)] [(0,En.mk 0 none (Obj.arr (132:TypeId) false [])),(1,Lp)]
theorem qgn (l:List Hd) (post:P×List (Nat×En)->Prop):(∃(ar:List Hd),Z5l l=Z5l ar/\lI ar/\ ∀(m:List Hd),m=rp ar-> ∃(l:List Hd),[p8 m,P.fn (103:FuncId) []]=[p8 l,P.fn (103:FuncId) []]/\Z5n m=Z5n l/\lI l/\ ∀(l':List Hd),List.Perm l' l->List.Pairwise (fun(a b:Hd)=>qC (Prod.fst b) (Prod.fst a)=false) l'->post (p8 m,[(0,PH l')]))=(aH [(102,HG)] [(3,ae (aK 68 3) gEh)] 68 [vd l,ve l] []) post:=by kernel_rfl
def xY:bm:=fun ps R post=> ∃l,ps=[vd l,ve l]/\R=[]/\l.length<=1000000/\ ∀m,m=u4 l->post (.sl 0 0 m.length,[(0,⟨0,none,arH false m⟩)])
abbrev er1 (l m:List Hd) (x:ax) (f:D->Option D) (c i:Int):S:=⟨59,[(0,vd l),(1,ve l),(5,.ref 0 0 0),(6,.ref 1 0 0),(10,.mp 2 0),(19,.sl 3 0 m.length),(20,iD (m.length:Int)),(21,iD i)],[(0,⟨0,none,.box 30 [iD x.1,iD x.2]⟩),(1,⟨0,none,.box 30 [iD 0,iD 0]⟩),(2,⟨0,none,XB f c⟩),(3,⟨0,none,arH false m⟩)]⟩
def p9:En:=En.mk 0 none (Obj.box (30:TypeId) (P.d Z7::ZY))
def vK (x:ax):Nat×En:=(0,tG x)
def Z5C (x:ax) (f:D->Option D) (c:Int):List (Nat×En):=[vK x,(1,p9),(2,zm f c)]
def rA (m:List Hd) (i:Int):D:=D.nth (List.map bB m) (Zg i)
def CA (m:List Hd) (i:Int):Int:=D.ah (D.ao (rA m i) 1)
def zo (m:List Hd) (i:Int):Int:=D.ah (D.ao (rA m i) 0)
def Va (m:List Hd) (i:Int):D:=D.agg [D.int IntKind.i64 (zo m i),D.int IntKind.i64 (CA m i)]
def Z5z:Nat:=0+1+1+1
def rN (m:List Hd):Int:=(↑(eU m):Int)
def PJ:Nat×P:=(10,P.mp 2 0)
def PK:Nat×P:=(6,iM)
def PL:Nat×P:=(5,bQ)
def CB (i:Int) (m:List Hd):Bool:=decide (Zg i<qI m)
def CC (i:Int) (m:List Hd):Bool:=decide ((0:Int)<=i/\i<rN m)
def MF (i:Int) (m:List Hd):Bool:=decide (i<rN m)
theorem PN (l m:List Hd) (x:ax) (f:D->Option D) (c i:Int) (post:PX×S->Prop):(bif MF i m then bif CC i m then bif CB i m then bif cX PR (132:TypeId) (rA m i) then bif Zj i then post (PX.normal,S.mk 59 [Jq l,Jp l,PL,PK,PJ,(19,P.sl 3 0 (eU m)),(20,P.d (D.int IntKind.i64 (rN m))),(21,P.d (Zm i))] [vK x,(1,p9),(2,En.mk 0 none (Obj.map 30 (fun(k':D)=>bif D.nD (D.agg [D.int IntKind.i64 (zo m i),D.int IntKind.i64 (D.ah (D.ao (rA m i) (0+1)))]) k' then some (D.agg [D.int IntKind.i64 (zo m i),D.int IntKind.i64 (D.ah (D.ao (rA m i) (0+1))),D.int IntKind.i64 (D.ah (D.ao (rA m i) (0+1+1))),D.int IntKind.i64 (D.ah (D.ao (rA m i) Z5z))]) else f k') (bif Option.isSome (f (Va m i)) then c else c+(1:Int)) false)),(3,PH m)]) else False else False else False else False else post (PX.exit 0,S.mk 59 [Jq l,Jp l,PL,PK,PJ] (Z5C x f c)))=(aF [] [] 37 4 (er1 l m x f c i)) post:=by kernel_rfl
abbrev qbc (l out:List Hd) (had:Bool) (i k:Int):S:=⟨80,[(0,ph l),(3,.sl 0 0 out.length),(4,iD i),(5,.d (.bool had)),(6,iD k)],[(0,⟨0,none,vb false out⟩)]⟩
def MG (i:Int) (l:List Hd):Bool:=decide ((0:Int)<=i/\i<(↑(qI l):Int))
noncomputable def uG (out:List Hd) (k:Int):Bool:=cX PR (139:TypeId) (rA out k)
def ES (out:List Hd):En:=En.mk 0 none (Obj.arr (139:TypeId) false (List.map bB out))
def yx (out:List Hd):Nat×En:=(0,ES out)
def vL (out:List Hd):List (Nat×En):=[yx out]
def rB (out:List Hd):Nat×P:=(3,p8 out)
def sA (l:List Hd):Nat×P:=(0,P.d (D.sl 4 (List.map bB l)))
theorem PO (l out:List Hd) (had:Bool) (i k:Int) (post:PX×S->Prop):(bif MF k out then bif had then bif Zj k then post (PX.normal,S.mk 80 (sA l::rB out::vH i::(5,ZM)::Zy k) (vL out)) else False else bif CC k out then bif CB k out then bif uG out k then bif MG i l then bif uG l i then bif Zj k then post (PX.normal,S.mk 80 (sA l::rB out::vH i::(5,P.d (D.bool (zo out k==zo l i&&(CA out k==CA l i&&true))))::Zy k) (vL out)) else False else False else False else False else False else False else post (PX.exit 2,S.mk 80 [sA l,rB out,vH i,(5,iz had)] (vL out)))=(aF [] [] 84 7 (qbc l out had i k)) post:=by kernel_rfl
abbrev qgo (l out:List Hd) (i k:Int):S:=⟨80,[(0,ph l),(3,.sl 0 0 out.length),(4,iD i),(7,iD k)],[(0,⟨0,none,vb false out⟩)]⟩
def Vb (out:List Hd) (k:Int):List D:=[D.int IntKind.i64 (zo out k),D.int IntKind.i64 (CA out k),D.int IntKind.i64 (D.ah (D.ao (rA out k) 2)),D.int IntKind.i64 (D.ah (D.ao (rA out k) 3))]
def Vc (out:List Hd) (k:Int):D:=D.nth (List.map bB out) (Zc k)
def XM (out:List Hd) (k:Int):List D:=List.set (List.map bB out) (Zg k) (D.aY (D.agg (Vb out k)) [D.int IntKind.i64 (D.ah (D.ao (Vc out k) 0)),D.int IntKind.i64 (D.ah (D.ao (Vc out k) 1)),D.int IntKind.i64 (D.ah (D.ao (Vc out k) 2)),D.int IntKind.i64 (D.ah (D.ao (Vc out k) 3))])
def Z5K (k:Int) (out:List Hd):Bool:=decide ((0:Int)<=k-(1:Int)/\k-(1:Int)<rN out)
theorem qbd (l out:List Hd) (i k:Int) (post:PX×S->Prop):(bif Zq k then bif Zb k then bif Z5K k out then bif decide (Zc k<qI out) then bif cX PR (139:TypeId) (Vc out k) then bif CC k out then bif CB k out then bif uG out k then∃(a:ax) (b:ax),[P.d (D.agg [D.int IntKind.i64 (D.ah (D.ao (Vc out k) 0)),D.int IntKind.i64 (D.ah (D.ao (Vc out k) 1))]),P.d (Va out k)]=ED a b/\Zw/\ ∀(r:Bool),r=qC a b->bif r then bif Zb k then bif Zb k then bif Z5K k out then bif decide (Zc k<qI out) then bif cX PR (139:TypeId) (Vc out k) then bif CC k out then bif CB k out then bif uG out k then bif CC k out then bif CB k out then bif uG out k then bif Z5K k out then bif decide (Zc k<List.length (XM out k)) then bif cX PR (139:TypeId) (D.nth (XM out k) (Zc k)) then bif Zb k then post (PX.normal,S.mk 80 [sA l,rB out,vH i,(7,Zr k)] [(0,En.mk 0 none (Obj.arr (139:TypeId) false (List.set (XM out k) (Zc k) (D.aY (D.agg [D.int IntKind.i64 (D.ah (D.ao (D.nth (XM out k) (Zc k)) 0)),D.int IntKind.i64 (D.ah (D.ao (D.nth (XM out k) (Zc k)) 1)),D.int IntKind.i64 (D.ah (D.ao (D.nth (XM out k) (Zc k)) 2)),D.int IntKind.i64 (D.ah (D.ao (D.nth (XM out k) (Zc k)) 3))]) (Vb out k)))))]) else False else False else False else False else False else False else False else False else False else False else False else False else False else False else False else post (PX.exit 4,S.mk 80 (sA l::rB out::C6 i) (vL out)) else False else False else False else False else False else False else False else post (PX.exit 4,S.mk 80 (sA l::rB out::C6 i) (vL out)))=(aF [(14,o6)] [] 84 13 (qgo l out i k)) post:=by kernel_rfl
abbrev PQ (l out:List Hd) (i:Int):S:=⟨80,[(0,ph l),(3,.sl 0 0 out.length),(4,iD i)],[(0,⟨0,none,vb false out⟩)]⟩
abbrev Vd (l:List aj) (out:List Hd) (i:Int):S:=⟨26,[(0,bO l),(3,.sl 0 0 out.length),(4,iD i)],[(0,⟨0,none,vb false out⟩)]⟩
def Sy (l:List aj) (i:Int):List D:=[D.int IntKind.i64 (D.ah (D.ao (fQ l i) 4)),D.int IntKind.i64 (D.ah (D.ao (fQ l i) 5))]
def Z5P (out:List Hd) (l:List aj) (i:Int):Nat:=eU out+List.length [D.agg (mz l i::lG l i::Sy l i)]
theorem PS (l:List aj) (out:List Hd) (i:Int) (post:PX×S->Prop):(bif u7 i l then bif pc i l then bif c8 l i then bif pc i l then bif c8 l i then bif Nat.ble (eU out) (qI out)&&aT (Z5P out l i) 32 then bif Zj i then post (PX.normal,S.mk 26 (lH l::(3,P.sl 0 0 (Z5P out l i))::AF i) [(0,En.mk 0 none (Obj.arr (139:TypeId) false (Cz out++[D.agg (mz l i::lG l i::Sy l i)])))]) else False else False else False else False else False else False else post (PX.exit 0,S.mk 26 [rB out] (vL out)))=(aF [] [] 44 3 (Vd l out i)) post:=by kernel_rfl
end Pi
namespace Pi
open Go Go.Proofs
set_option maxRecDepth 100000
theorem Ve (h:Hd):cX PR 132 (bB h)=true:=by kernel_rfl
theorem qa (h:Hd):cX PR 139 (bB h)=true:=by kernel_rfl
def zp (U:List ax) (o:List Hd):Prop:= ∀x,x∈U↔(o.any fun y=>y.1==x)=true
theorem zp.nil:zp [] []:=fun x=>by simp
theorem zp.had {U:List ax} {o:List Hd} {x:ax} (h:zp U o) (hx:x∈U):zp (x::U) o:=fun y=>by
 rw[List.mem_cons,h y]
 constructor
 ·rintro(rfl |h2)
  ·exact(h _).1 hx
  ·exact h2
 ·exact .inr
theorem zp.new {U:List ax} {o:List Hd} {g:Hd} (h:zp U o):zp (g.1::U) (o++[g]):=fun y=>by
 rw[List.mem_cons,h y,List.any_append,Bool.or_eq_true]
 simp only[List.any_cons,List.any_nil,Bool.or_false,beq_iff_eq]
 constructor
 ·rintro(rfl |h2)
  ·exact .inr rfl
  ·exact .inl h2
 ·rintro(h2 |rfl)
  ·exact .inr h2
  ·exact .inl rfl
theorem ET {l:List Hd} {i:Nat} (h:i<l.length):rp (l.take (i+1))=FF (rp (l.take i)) l[i]:=by
 rw[List.take_succ_eq_append_getElem h]
 unfold rp
 rw[List.foldl_append]
 rfl
theorem Jr {o:List Hd} {h:Hd} (hx:(o.any fun x=>x.1==h.1)=true):FF o h=o:=by
 unfold FF
 rw[if_pos hx]
theorem Js {o:List Hd} {h:Hd} (hx:(o.any fun x=>x.1==h.1)=false):FF o h=o++[h]:=by
 unfold FF
 rw[if_neg (by rw[hx];simp)]
theorem qei:FC 103 qgm:=FC.mk (H:=[(66,tu)]) (by kernel_rfl) (.cons Xv .nil) (by
 intro ps R post hh
 obtain⟨a,b,rfl,rfl,hp⟩:=hh
 (rw[<-qeh];delta Zw Zs ZC Hg Z5k)
 exact⟨_,_,_,_,rfl,rfl,hp⟩)
def qgp:D->Hd
 | .agg [.int .i64 a,.int .i64 b,.int .i64 c,.int .i64 d]=>((a,b),(c,d))
 |_=>((0,0),(0,0))
section
variable {X:XF}
theorem Vf:FD X 102 HG:=U1 (dec:=qgp) (c:=fun a b=>oW a.1.1 a.1.2 b.1.1 b.1.2)
 (fun cf=>FD.TI Tryz.func102 (by kernel_rfl) (by kernel_rfl) fun ps R post h=>GO (Cp h)) (fun _=>rfl) qE (fun x y=>(Cg x.1 y.1).lt) (fun _=>⟨_,rfl⟩)
 (fun x y=>FC.qd0 qei ⟨x,y,rfl,rfl,rfl⟩) ⟨_,Tryz.func103,by kernel_rfl,by kernel_rfl⟩
theorem qbe:LD X 68 3 (ae (aK 68 3) gEh):=LD.idx (H:=[]) (hk:=[]) (by kernel_rfl) (by kernel_rfl) .nil .nil
 (A:=List Hd) (B:=List Hd×List ax×Int) (fun l b i=>ehH l b.1 (cM b.2.1) b.2.2 i) (fun l=>l.length) (fun l i b=>l.length<=1000000/\b.1=rp (l.take i)/\zp b.2.1 b.1/\b.2.1.length<=i)
 (fun l x=>x=(.exit 0,⟨50,[(5,.sl 0 0 (rp l).length)],[(0,⟨0,none,arH false (rp l)⟩)]⟩))
 (by
  rintro l ⟨o,U,c⟩ i post h0 bS bc ⟨qp,rfl,hU,Lr⟩ hn ho
  dsimp only at*
  (rw[<-XL];delta PH eU p8 Zg ny Z56 PI Z7 Z5g Z5h Cz Zm pP Sx Z5e Jp Jq Za Z9 Zj Z5b qI Z58 Z55)
  have e1:D.nth ((l.map (·.1)).map aX) i.toNat=aX l[i.toNat].1:=by rw[ay _ _ _ (by simpa using bc)];simp
  have e2:D.nth ((l.map (·.2)).map aX) i.toNat=aX l[i.toNat].2:=by rw[ay _ _ _ (by simpa using bc)];simp
  rw[e1,e2]
  simp only[ehH,List.length_map] at hn⊢
  have qH:=ET bc
  have nM:=pM (l.take i.toNat)
  rw[List.length_take] at nM
  generalize l[i.toNat]=g at qH
  have v1: ∀n:Int,D.ah (iE n)=n:=fun _=>rfl
  have t1:D.agg [D.int .i64 (D.ah (D.ao (aX g.1) 0)),D.int .i64 (D.ah (D.ao (aX g.1) 1))]=aX g.1:=rfl
  have t2:D.agg [D.int .i64 (D.ah (D.ao (aX g.1) 0)),D.int .i64 (D.ah (D.ao (aX g.1) 1)),D.int .i64 (D.ah (D.ao (aX g.2) 0)),D.int .i64 (D.ah (D.ao (aX g.2) 1))]=bB g:=rfl
  have g0:cm (cM U (aX g.1)) (.int .i64 0)=iE (U.count g.1:Int):=pb U g.1
  have C3:=List.count_le_length (a:=g.1) (l:=U)
  have u2:=fun z=>Ct U g.1 z
  have u3:=fun z=>Cr U g.1 z
  have g1:cm (cM (g.1::U) (aX g.1)) (.int .i64 0)= .int .i64 ((U.count g.1:Int)+1):=by
   have:=pb (g.1::U) g.1
   rw[List.count_cons_self] at this
   exact this
  have y5:(U.count g.1:Int)=0↔ ¬g.1∈U:=by
   rw[<-List.count_eq_zero]
   omega
  have hcb:0<=(U.count g.1:Int)/\(U.count g.1:Int)<=1000000:=by omega
  generalize (U.count g.1:Int)=cn at g0 u2 u3 g1 y5 hcb
  rw[t1,g0]
  simp only[v1]
  refine bV (by omega) (ak ⟨h0,bS⟩ (aq (l7 _) (aq (zn _) (ak (by omega) ?_))))
  rw[u2,g1,u3]
  refine ak ⟨h0,bS⟩ (aq (l7 _) (aq (zn _) ?_))
  simp only[v1,List.length_cons,List.length_nil,Nat.zero_add]
  refine U6 (fun h2=> ?_) fun h2=>ak (by omega) (hn (rp (l.take i.toNat),g.1::U,_) ⟨qp,?_,hU.had ?_,Nat.succ_le_succ Lr⟩)
  ·refine ak ⟨h0,bS⟩ (aq (l7 _) (ak ⟨h0,bS⟩ (aq (l7 _) (aq ?_ (ak (by omega) ?_)))))
   ·rw[Bool.and_eq_true]
    exact⟨by simp,cD (by omega) (by omega)⟩
   ·have IQ:((rp (l.take i.toNat)).any fun x=>x.1==g.1)=false:=by rw[<-Bool.not_eq_true,<-hU g.1];exact y5.1 (by omega)
    have:=fun c':Int=>hn (rp (l.take i.toNat)++[g],g.1::U,c') ⟨qp,by rw[qH,Js IQ],hU.new,Nat.succ_le_succ Lr⟩
    rw[t2,dU]
    simp only[List.length_append,List.length_cons,List.length_nil,Nat.zero_add] at this
    exact this _
  ·have hx:g.1∈U:=Classical.byContradiction fun h=>by have:=y5.2 h;omega
   rw[qH,Jr ((hU g.1).1 hx)]
  ·exact Classical.byContradiction fun h=>by have:=y5.2 h;omega)
 (by
  rintro l ⟨o,U,c⟩ i post hi ⟨qp,rfl,hU,Lr⟩ ho
  dsimp only at*
  (rw[<-XL];delta PH eU p8 Zg ny Z56 PI Z7 Z5g Z5h Cz Zm pP Sx Z5e Jp Jq Za Z9 Zj Z5b qI Z58 Z55)
  simp only[List.length_map]
  refine bJ (fun h=>by omega) fun h=>ho _ (fun h=>by cases h) ?_
  rw[List.take_length])
 (by
  rintro s post ⟨l,rfl,hs,hp⟩
  refine⟨l,([],[],0),by rw[Cq],⟨hs,rfl,zp.nil,by simp⟩,?_⟩
  rintro x rfl
  exact hp _ rfl)
theorem Jt:FD X 68 xY:=FD.mk (H:=[(102,HG)]) (hk:=[(3,ae (aK 68 3) gEh)]) (by kernel_rfl) (.cons Vf .nil) (.cons qbe .nil) (by
 intro ps R post hh
 obtain⟨l,rfl,rfl,hs,hp⟩:=hh
 (rw[<-qgn];delta PH Z5n eU p8 lI Lp Z7 pP ny Sx ZO Jp Jq Z5l)
 have hdl:=pM l
 refine⟨l,rfl,hs,fun m hm=>⟨m,rfl,rfl,by rw[hm];omega,fun l' EU hpw=> ?_⟩⟩
 subst hm
 have e:=Jg EU hpw
 rw[<-EU.length_eq,e]
 exact hp _ rfl)
end
end Pi
namespace Pi
open Go Go.Proofs
set_option maxRecDepth 100000
set_option maxHeartbeats 0
abbrev XO:Nat:=153
abbrev bkI (hs:List Hd) (i:Int):S:=⟨19,[(0,.mp 0 0),(1,.ref 1 0 0),(3,iD i)],[(0,⟨0,some 1,.dX⟩),(1,⟨0,some 0,.box 128 [.d (.sl 4 (hs.map bB))]⟩)]⟩
abbrev bkE (hs:List Hd):S:=⟨19,[(0,.mp 0 0),(1,.ref 1 0 0)],[(0,⟨0,some 1,.dX⟩),(1,⟨0,some 0,.box 128 [.d (.sl 4 (hs.map bB))]⟩)]⟩
abbrev onC (out:List ax) (n:Nat) (f:D->Option D) (c:Int):S:=
 ⟨37,[(5,.ref 0 0 0),(6,.ref 2 0 0)],[(0,⟨0,none,.box 51 [.sl 1 0 n]⟩),(1,⟨0,none,.arr 30 false (out.map aX)⟩),(2,⟨0,none,.box 98 [.mp 3 0]⟩),(3,⟨0,none,XB f c⟩)]⟩
abbrev Vg:Option (List Nat×List Nat):=some ([5,6],[5,6])
theorem Vh (hs:List Hd) (out:List ax) (n:Nat) (f:D->Option D) (c:Int) (i:Int) (post:PX×S×PX×S->Prop):(bif decide (i>=(0:Int)) then bif decide ((0:Int)<=i/\i<(↑(List.length (List.map bB hs)):Int)) then bif cX PR 132 (D.nth (List.map bB hs) (Int.toNat i)) then bif cX PR 3 (cm (f (D.agg [D.int IntKind.i64 (D.ah (D.ao (D.nth (List.map bB hs) (Int.toNat i)) 0)),D.int IntKind.i64 (D.ah (D.ao (D.nth (List.map bB hs) (Int.toNat i)) 1))])) (D.int IntKind.i64 (0:Int))) then bif decide (D.ah (cm (f (D.agg [D.int IntKind.i64 (D.ah (D.ao (D.nth (List.map bB hs) (Int.toNat i)) 0)),D.int IntKind.i64 (D.ah (D.ao (D.nth (List.map bB hs) (Int.toNat i)) 1))])) (D.int IntKind.i64 (0:Int)))>(0:Int)) then bif decide ((-9223372036854775808:Int)<=i-(1:Int)/\i-(1:Int)<=(9223372036854775807:Int)) then post (PX.normal,S.mk 19 [(0,P.mp 0 0),(1,P.ref 1 0 0),(3,P.d (D.int IntKind.i64 (i-(1:Int))))] [(0,En.mk 0 (some 1) Obj.dX),(1,En.mk 0 (some 0) (Obj.box 128 [P.d (D.sl 4 (List.map bB hs))]))],PX.normal,S.mk 37 [(5,P.ref 0 0 0),(6,P.ref 2 0 0)] [(0,En.mk 0 none (Obj.box 51 [P.sl 1 0 n])),(1,En.mk 0 none (Obj.arr 30 false (List.map aX out))),(2,En.mk 0 none (Obj.box 98 [P.mp 3 0])),(3,En.mk 0 none (Obj.map 30 f c false))]) else False else bif Nat.ble n (List.length (List.map aX out))&&aT (n+List.length [D.agg [D.int IntKind.i64 (D.ah (D.ao (D.nth (List.map bB hs) (Int.toNat i)) 0)),D.int IntKind.i64 (D.ah (D.ao (D.nth (List.map bB hs) (Int.toNat i)) 1))]]) 16 then bif cX PR 3 (cm (f (D.agg [D.int IntKind.i64 (D.ah (D.ao (D.nth (List.map bB hs) (Int.toNat i)) 2)),D.int IntKind.i64 (D.ah (D.ao (D.nth (List.map bB hs) (Int.toNat i)) 3))])) (D.int IntKind.i64 (0:Int))) then bif decide ((-9223372036854775808:Int)<=D.ah (cm (f (D.agg [D.int IntKind.i64 (D.ah (D.ao (D.nth (List.map bB hs) (Int.toNat i)) 2)),D.int IntKind.i64 (D.ah (D.ao (D.nth (List.map bB hs) (Int.toNat i)) 3))])) (D.int IntKind.i64 (0:Int)))+(1:Int)/\D.ah (cm (f (D.agg [D.int IntKind.i64 (D.ah (D.ao (D.nth (List.map bB hs) (Int.toNat i)) 2)),D.int IntKind.i64 (D.ah (D.ao (D.nth (List.map bB hs) (Int.toNat i)) 3))])) (D.int IntKind.i64 (0:Int)))+(1:Int)<=(9223372036854775807:Int)) then bif decide ((-9223372036854775808:Int)<=i-(1:Int)/\i-(1:Int)<=(9223372036854775807:Int)) then post (PX.normal,S.mk 19 [(0,P.mp 0 0),(1,P.ref 1 0 0),(3,P.d (D.int IntKind.i64 (i-(1:Int))))] [(0,En.mk 0 (some 1) Obj.dX),(1,En.mk 0 (some 0) (Obj.box 128 [P.d (D.sl 4 (List.map bB hs))]))],PX.normal,S.mk 37 [(5,P.ref 0 0 0),(6,P.ref 2 0 0)] [(0,En.mk 0 none (Obj.box 51 [P.sl 1 0 (n+List.length [D.agg [D.int IntKind.i64 (D.ah (D.ao (D.nth (List.map bB hs) (Int.toNat i)) 0)),D.int IntKind.i64 (D.ah (D.ao (D.nth (List.map bB hs) (Int.toNat i)) 1))]])])),(1,En.mk 0 none (Obj.arr 30 false (List.take n (List.map aX out)++[D.agg [D.int IntKind.i64 (D.ah (D.ao (D.nth (List.map bB hs) (Int.toNat i)) 0)),D.int IntKind.i64 (D.ah (D.ao (D.nth (List.map bB hs) (Int.toNat i)) 1))]]))),(2,En.mk 0 none (Obj.box 98 [P.mp 3 0])),(3,En.mk 0 none (Obj.map 30 (fun(k':D)=>bif D.nD (D.agg [D.int IntKind.i64 (D.ah (D.ao (D.nth (List.map bB hs) (Int.toNat i)) (0+1+1))),D.int IntKind.i64 (D.ah (D.ao (D.nth (List.map bB hs) (Int.toNat i)) (0+1+1+1)))]) k' then some (D.int IntKind.i64 (D.ah (cm (f (D.agg [D.int IntKind.i64 (D.ah (D.ao (D.nth (List.map bB hs) (Int.toNat i)) (0+1+1))),D.int IntKind.i64 (D.ah (D.ao (D.nth (List.map bB hs) (Int.toNat i)) (0+1+1+1)))])) (D.int IntKind.i64 (0:Int)))+(1:Int))) else cO (D.agg [D.int IntKind.i64 (D.ah (D.ao (D.nth (List.map bB hs) (Int.toNat i)) (0+1+1))),D.int IntKind.i64 (D.ah (D.ao (D.nth (List.map bB hs) (Int.toNat i)) (0+1+1+1)))]) (cm (f (D.agg [D.int IntKind.i64 (D.ah (D.ao (D.nth (List.map bB hs) (Int.toNat i)) (0+1+1))),D.int IntKind.i64 (D.ah (D.ao (D.nth (List.map bB hs) (Int.toNat i)) (0+1+1+1)))])) (D.int IntKind.i64 (0:Int))) f k') (bif Option.isSome (f (D.agg [D.int IntKind.i64 (D.ah (D.ao (D.nth (List.map bB hs) (Int.toNat i)) 2)),D.int IntKind.i64 (D.ah (D.ao (D.nth (List.map bB hs) (Int.toNat i)) 3))])) then c else c+(1:Int)) false))]) else False else False else False else False else False else False else False else post (PX.exit 0,S.mk 19 [(0,P.mp 0 0),(1,P.ref 1 0 0)] [(0,En.mk 0 (some 1) Obj.dX),(1,En.mk 0 (some 0) (Obj.box 128 [P.d (D.sl 4 (List.map bB hs))]))],PX.normal,S.mk 37 [(5,P.ref 0 0 0),(6,P.ref 2 0 0)] [(0,En.mk 0 none (Obj.box 51 [P.sl 1 0 n])),(1,En.mk 0 none (Obj.arr 30 false (List.map aX out))),(2,En.mk 0 none (Obj.box 98 [P.mp 3 0])),(3,En.mk 0 none (Obj.map 30 f c false))]))=(lg [] [] 94 4 2000000 Vg 1 XO 1 (bkI hs i,(.normal,onC out n f c))) post:=by kernel_rfl
end Pi
namespace Pi
open Go Go.Proofs
set_option maxRecDepth 100000
def AI (l:List Hd):List Hd:=Jh l.reverse []
theorem PT (h:Hd) (l:List Hd):AI (h::l)=Pr (AI l) h:=by simp[AI,Jh]
theorem Ju (l:List Hd):(AI l).length<=l.length:=by simpa [AI] using sx l.reverse []
theorem qej (l:List Hd):UX l=((AI (u4 l)).map (·.1)).reverse:=rfl
def jb (l:List Hd):List ax:=(l.map (·.2)).reverse
theorem PU (l:List Hd):(jb l).length=l.length:=by simp[jb]
theorem Lt (l:List Hd) (h:Hd):jb (l++[h])=h.2::jb l:=by simp[jb]
theorem PV (l:List Hd) (x:ax):x∈jb l↔(l.any fun y=>y.2==x)=true:=by
 simp[jb,List.any_eq_true]
def gOn:xW:=fun y post=> ∃hs:List Hd,hs.length<=1000000/\(∃i:Int,i=(hs.length:Int)-1/\y=(bkI hs i,(.normal,onC [] 0 (fun _=>none) 0)))/\
 ∀c o f,o=AI hs->f=cM (jb o)->post (.exit 0,bkE hs,(.normal,onC (o.map (·.1)) o.length f c))
section
variable {X:XF} {w0:World} (hX:db PR w0 X.cf)
include hX
theorem qgq:LY w0 94 4 1 XO 1 (dR (aK XO 1) gOn):=LY.par hX (H:=[]) (HN:=[]) (base:=2000000) (keep:=Vg) C7 .nil .nil (by kernel_rfl) (by kernel_rfl) (by kernel_rfl)
 (A:=List Hd) (B:=Nat×Int×Int)
 (fun hs b=>(bkI hs b.2.1,(.normal,onC ((AI (hs.drop b.1)).map (·.1)) (AI (hs.drop b.1)).length (cM (jb (AI (hs.drop b.1)))) b.2.2)))
 (fun hs b=>hs.length<=1000000/\b.1<=hs.length/\b.2.1=(b.1:Int)-1)
 (fun _ b=>b.1)
 (fun hs x=> ∃c,x=(.exit 0,bkE hs,(.normal,onC ((AI hs).map (·.1)) (AI hs).length (cM (jb (AI hs))) c)))
 (by
  rintro hs ⟨k,i,c⟩ ⟨hm,hk,hi⟩
  dsimp only at*
  rw[<-Vh]
  cases k with
  |zero=>
   refine nv (by omega) ?_
   exact⟨c,rfl⟩
  |succ k=>
   have bk:k<hs.length:=by omega
   have Fx:i.toNat=k:=by omega
   have hl:=Ju (hs.drop (k+1))
   have hd:hs.drop k=hs[k]::hs.drop (k+1):=List.drop_eq_getElem_cons bk
   have hdl:(hs.drop (k+1)).length<=1000000:=by simp;omega
   have e1:D.nth (hs.map bB) i.toNat=bB hs[k]:=by rw[Fx];exact ay _ _ _ bk
   rw[e1]
   have ho:AI (hs.drop k)=Pr (AI (hs.drop (k+1))) hs[k]:=by rw[hd,PT]
   generalize hs[k]=h at ho
   generalize AI (hs.drop (k+1))=on at ho hl
   have v1: ∀n:Int,D.ah (iE n)=n:=fun _=>rfl
   have t1:D.agg [D.int .i64 (D.ah (D.ao (bB h) 0)),D.int .i64 (D.ah (D.ao (bB h) 1))]=aX h.1:=rfl
   have t2:D.agg [D.int .i64 (D.ah (D.ao (bB h) 2)),D.int .i64 (D.ah (D.ao (bB h) 3))]=aX h.2:=rfl
   have g0:cm (cM (jb on) (aX h.1)) (.int .i64 0)=iE ((jb on).count h.1:Int):=pb _ _
   have g2:cm (cM (jb on) (aX h.2)) (.int .i64 0)=iE ((jb on).count h.2:Int):=pb _ _
   have u3:=fun z=>Cr (jb on) h.2 z
   have y5:(jb on).count h.1>0↔(on.any fun y=>y.2==h.1)=true:=by rw[<-PV];exact List.count_pos_iff
   have c1:=List.count_le_length (a:=h.1) (l:=jb on)
   have c2:=List.count_le_length (a:=h.2) (l:=jb on)
   rw[PU] at c1 c2
   have qbf:((jb on).count h.1:Int)>0↔(on.any fun y=>y.2==h.1)=true:=by rw[<-y5];omega
   have hcb:0<=((jb on).count h.2:Int)/\((jb on).count h.2:Int)<=1000000:=by omega
   rw[t1,t2,g0,g2,List.length_map]
   generalize ((jb on).count h.1:Int)=n1 at qbf⊢
   generalize ((jb on).count h.2:Int)=n2 at u3 hcb⊢
   simp only[v1,List.length_cons,List.length_nil,Nat.zero_add]
   refine bV (by omega) (ak ⟨by omega,by omega⟩ (aq (Ve _) (aq (zn _) (bJ (fun hu=>ak (by omega) ?_) fun hu=>aq ?_ (aq (zn _) (ak (by omega) (ak (by omega) ?_)))))))
   ·refine⟨k,Nat.lt_succ_self k,(k,i-1,c),?_,⟨hm,by show k<=hs.length;omega,by show i-1=(k:Int)-1;omega⟩,rfl⟩
    rw[ho,Pr,if_pos (qbf.1 hu)]
   ·rw[Bool.and_eq_true]
    exact⟨by simp,cD (by omega) (by omega)⟩
   ·rw[u3]
    refine⟨k,Nat.lt_succ_self k,(k,i-1,bif (cM (jb on) (aX h.2)).isSome then c else c+1),?_,⟨hm,by show k<=hs.length;omega,by show i-1=(k:Int)-1;omega⟩,rfl⟩
    dsimp only
    have e:List.take on.length ((on.map (·.1)).map aX)++[aX h.1]=(on.map (·.1)++[h.1]).map aX:=by
     rw[List.take_of_length_le (by simp),List.map_append]
     rfl
    rw[e,ho,Pr,if_neg (fun h=>hu (qbf.2 h)),Lt,List.length_append,show(on++[h]).map (fun x:Hd=>x.1)=on.map (·.1)++[h.1] from List.map_append]
    rfl)
 (by
  rintro y post ⟨hs,h1,⟨i,hi,rfl⟩,h2⟩
  refine⟨hs,(hs.length,i,0),?_,⟨h1,Nat.le_refl _,hi⟩,?_⟩
  ·dsimp only
   rw[List.drop_length,show jb (AI [])=[] from rfl,Cq]
   rfl
  ·rintro x ⟨c,rfl⟩
   exact h2 c _ _ rfl rfl)
end
end Pi
namespace Pi
open Go Go.Proofs
set_option maxRecDepth 100000
set_option maxHeartbeats 0
abbrev onA (l m:List Hd):S:=⟨37,[(0,vd l),(1,ve l),(4,.sl 1004 0 0),(5,.ref 1005 0 0),(6,.ref 1006 0 0),(9,.sl 1009 0 0),(10,.mp 1010 0),(11,vd l),(12,ve l),(13,.sl 1013000 0 m.length),(14,.fn XO [.ref 1014000 0 0])],
 [(1004,⟨0,none,.arr 30 false []⟩),(1005,⟨0,none,.box 51 [.sl 1009 0 0]⟩),(1006,⟨0,none,.box 98 [.mp 1010 0]⟩),(1009,⟨0,none,.arr 30 false []⟩),(1010,⟨0,none,.map 30 (fun _=>none) 0 false⟩),(1005000,⟨0,none,.arr 30 false []⟩),(1013000,⟨0,none,arH true m⟩),(1014000,⟨0,none,.box 128 [.d (.sl 4 (List.take m.length (m.map bB)))]⟩)]⟩
theorem Vi (l m:List Hd) (post:PX×S->Prop):(bif decide ((-9223372036854775808:Int)<=(↑(List.length (List.take (List.length m) (List.map bB m))):Int)-(1:Int)/\(↑(List.length (List.take (List.length m) (List.map bB m))):Int)-(1:Int)<=(9223372036854775807:Int)) then∃(hs:List Hd),List.length hs<=1000000/\(∃(i:Int),i=(↑(List.length hs):Int)-(1:Int)/\(S.mk 19 [(0,P.mp 0 0),(1,P.ref 1 0 0),(3,P.d (D.int IntKind.i64 ((↑(List.length (List.take (List.length m) (List.map bB m))):Int)-(1:Int))))] [(0,En.mk 0 (some 1) Obj.dX),(1,En.mk 0 (some 0) (Obj.box 128 [P.d (D.sl 4 (List.take (List.length m) (List.map bB m)))]))],PX.normal,S.mk 37 [(5,P.ref 0 0 0),(6,P.ref 2 0 0)] [(0,En.mk 0 none (Obj.box 51 [P.sl 1 0 0])),(1,En.mk 0 none (Obj.arr 30 false [])),(2,En.mk 0 none (Obj.box 98 [P.mp 3 0])),(3,En.mk 0 none (Obj.map 30 (fun(_:D)=>none) (0:Int) false))])=(S.mk 19 [(0,P.mp 0 0),(1,P.ref 1 0 0),(3,P.d (D.int IntKind.i64 i))] [(0,En.mk 0 (some 1) Obj.dX),(1,En.mk 0 (some 0) (Obj.box 128 [P.d (D.sl 4 (List.map bB hs))]))],PX.normal,S.mk 37 [(5,P.ref 0 0 0),(6,P.ref 2 0 0)] [(0,En.mk 0 none (Obj.box 51 [P.sl 1 0 0])),(1,En.mk 0 none (Obj.arr 30 false [])),(2,En.mk 0 none (Obj.box 98 [P.mp 3 0])),(3,En.mk 0 none (Obj.map 30 (fun(_:D)=>none) (0:Int) false))]))/\ ∀(c:Int) (o:List Hd) (f:D->Option D),o=AI hs->f=cM (jb o)->post (PX.normal,S.mk 37 [(5,P.ref 0 0 0),(6,P.ref 2 0 0)] [(0,En.mk 0 none (Obj.box 51 [P.sl 1 0 (List.length o)])),(1,En.mk 0 none (Obj.arr 30 false (List.map aX (List.map (fun(x:Hd)=>Prod.fst x) o)))),(2,En.mk 0 none (Obj.box 98 [P.mp 3 0])),(3,En.mk 0 none (Obj.map 30 f c false))]) else False)=(vJ [] [] (fun fi yt=>if Nat.beq fi XO&&Nat.beq yt 1 then [(1,dR (aK XO 1) gOn)] else []) 94 4 2000000 Vg (onA l m)) post:=by kernel_rfl
abbrev nV (z:Bool) (l:List ax):Obj:= .arr 30 z (l.map aX)
def qbg:S->K (PX×S):=fun s post=> ∃l m,s=onA l m/\m.length<=1000000/\ ∀c o f,o=AI m->post (.normal,onC (o.map (·.1)) o.length f c)
def PW:bm:=fun ps R post=> ∃l:List ax,ps=[.sl 0 0 l.length]/\R=[(0,⟨0,some 0,nV false l⟩)]/\l.length<=1000000/\ ∀l',l'=l.reverse->post (.da [],[(0,⟨0,some 0,nV false l'⟩)])
abbrev rvH (n:Nat) (l:List ax) (i j:Int):S:=⟨28,[(0,.sl 0 0 n),(2,iD i),(3,iD j)],[(0,⟨0,some 0,nV false l⟩)]⟩
def nW (l:List ax):Obj:=Obj.arr (30:TypeId) false (List.map aX l)
def Jv (l:List ax):List (Nat×En):=[(0,En.mk 0 (some 0) (nW l))]
def qJ (n:Nat):Nat×P:=(0,Zz n)
def Z5S (l:List ax) (i:Int) (j:Int):List D:=List.set (List.map aX l) (Zg i) (D.aY (D.agg (FE l i)) (FE l j))
def Sz (j:Int) (l:List ax):Bool:=decide (Zg j<List.length (List.map aX l))
def nN (j:Int) (n:Nat):Bool:=decide ((0:Int)<=j/\j<(↑n:Int))
theorem qek (n:Nat) (l:List ax) (i j:Int) (post:PX×S->Prop):(bif ZG i j then bif nN j n then bif Sz j l then bif vG l j then bif nN i n then bif Sz i l then bif vG l i then bif nN i n then bif Sz i l then bif vG l i then bif nN j n then bif decide (Zg j<List.length (Z5S l i j)) then bif cX PR (30:TypeId) (D.nth (Z5S l i j) (Zg j)) then bif Zj i then bif Zb j then post (PX.normal,S.mk 28 [qJ n,(2,P.d (Zm i)),(3,Zr j)] [(0,En.mk 0 (some 0) (Obj.arr (30:TypeId) false (List.set (Z5S l i j) (Zg j) (D.aY (D.agg [D.int IntKind.i64 (D.ah (D.ao (D.nth (Z5S l i j) (Zg j)) 0)),D.int IntKind.i64 (D.ah (D.ao (D.nth (Z5S l i j) (Zg j)) 1))]) (FE l i)))))]) else False else False else False else False else False else False else False else False else False else False else False else False else False else False else post (PX.exit 0,S.mk 28 [qJ n] (Jv l)))=(aF [] [] 123 1 (rvH n l i j)) post:=by kernel_rfl
def gRv:S->K (PX×S):=fun st post=> ∃(l:List ax) (n:Nat) (j:Int),st=rvH n l 0 j/\(n=l.length/\j=(n:Int)-1/\n<=1000000)/\post (.exit 0,⟨28,[(0,.sl 0 0 n)],[(0,⟨0,some 0,nV false l.reverse⟩)]⟩)
theorem qgr (n:Nat) (l:List ax) (post:P×List (Nat×En)->Prop):(bif decide (Z9<=(↑n:Int)-(1:Int)/\(↑n:Int)-(1:Int)<=Za) then∃(ar:List ax) (cj:Nat) (j:Int),S.mk 28 [qJ n,(2,P.d Z7),(3,P.d (D.int IntKind.i64 ((↑n:Int)-(1:Int))))] (Jv l)=S.mk 28 [qJ cj,(2,P.d Z7),(3,P.d (Zs j))] (Jv ar)/\(cj=dV ar/\j=(↑cj:Int)-(1:Int)/\cj<=1000000)/\post (P.da [],[(0,En.mk 0 (some 0) (Obj.arr (30:TypeId) false (List.map aX (List.reverse ar))))]) else False)=(aH [] [(1,ae (aK 123 1) gRv)] 123 [.sl 0 0 n] [(0,⟨0,some 0,nV false l⟩)]) post:=by kernel_rfl
def qK (l':List ax):En:=En.mk 0 none (nW l')
def XP (l':List ax):List (Nat×En):=[(0,qK l')]
def nz (l:List ax):Prop:=dV l<=1000000
def xZ:En:=En.mk 0 none (Obj.arr (30:TypeId) false [])
def Z5Y (l:List Hd) (m:List Hd):S:=S.mk 37 [Jq l,Jp l,(4,P.sl 1004 0 0),(5,P.ref 1005 0 0),(6,P.ref 1006 0 0),(9,P.sl 1009 0 0),(10,P.mp 1010 0),(11,P.d (D.sl 2 (ny l))),(12,P.d (D.sl 2 (pP l))),(13,P.sl 1013000 0 (eU m)),(14,P.fn (153:FuncId) [P.ref 1014000 0 0])] [(1004,xZ),(1005,En.mk 0 none (Obj.box (51:TypeId) [P.sl 1009 0 0])),(1006,En.mk 0 none (Obj.box (98:TypeId) [P.mp 1010 0])),(1009,xZ),(1010,Lp),(1005000,xZ),(1013000,En.mk 0 none (Obj.arr (132:TypeId) true (List.map bB m))),(1014000,En.mk 0 none (Obj.box (128:TypeId) [P.d (D.sl 4 (Cz m))]))]
def XQ (l:List Hd):List P:=[P.d (D.sl 2 (ny l)),P.d (D.sl 2 (pP l))]
theorem qgs (l:List Hd) (post:P×List (Nat×En)->Prop):(∃(ar:List Hd),XQ l=XQ ar/\Zw/\lI ar/\ ∀(m:List Hd),m=u4 ar-> ∃(gq:List Hd) (bL:List Hd),Z5Y l m=Z5Y gq bL/\lI bL/\ ∀(_:Int) (o:List Hd) (_:D->Option D),o=AI bL-> ∃(l:List ax),[p8 o]=[P.sl 0 0 (dV l)]/\[(0,En.mk 0 (some 0) (Obj.arr (30:TypeId) false (ny o)))]=Jv l/\nz l/\ ∀(l':List ax),l'=List.reverse l->post (p8 o,XP l'))=(rv [(68,xY),(123,PW)] [] [(500004,qbg)] 94 [vd l,ve l] []) post:=by kernel_rfl
def qbh:bm:=fun ps R post=> ∃l,ps=[vd l,ve l]/\R=[]/\l.length<=1000000/\ ∀o,o=UX l->post (.sl 0 0 o.length,[(0,⟨0,none,nV false o⟩)])
end Pi
namespace Pi
open Go Go.Proofs
set_option maxRecDepth 100000
def mc (l:List ax) (i:Nat):List ax:=(List.range l.length).map fun p=>if p<i\/l.length-i<=p then l.getD (l.length-1-p) (0,0) else l.getD p (0,0)
theorem gP (l:List ax) (i:Nat):(mc l i).length=l.length:=by simp[mc]
theorem me (l:List ax) (i p:Nat) (h:p<l.length):(mc l i)[p]'(by rw[gP];exact h)=if p<i\/l.length-i<=p then l.getD (l.length-1-p) (0,0) else l.getD p (0,0):=by simp[mc]
theorem Lu (l:List ax):mc l 0=l:=by
 apply List.ext_getElem (gP l 0)
 intro p h1 h2
 rw[me l 0 p h2,if_neg (by omega)]
 exact dK h2 _
theorem PY (l:List ax) (i:Nat) (h:l.length<=2*i+1):mc l i=l.reverse:=by
 apply List.ext_getElem (by rw[gP];simp)
 intro p h1 h2
 have hp:p<l.length:=by rw[gP] at h1;exact h1
 rw[me l i p hp,List.getElem_reverse]
 split
 ·exact dK (by omega) _
 ·rw[dK hp]
  congr 1
  omega
theorem Lv (l:List ax) (i:Nat) (h:2*i+1<l.length):((mc l i).set i ((mc l i)[l.length-1-i]'(by rw[gP];omega))).set (l.length-1-i) ((mc l i)[i]'(by rw[gP];omega))=mc l (i+1):=by
 apply List.ext_getElem (by simp[gP])
 intro p h1 h2
 have hp:p<l.length:=by rw[gP] at h2;exact h2
 rw[List.getElem_set,List.getElem_set,me l (i+1) p hp,me l i p hp,me l i i (by omega),me l i (l.length-1-i) (by omega)]
 by_cases e1:l.length-1-i=p
 ·rw[if_pos e1,if_neg (by omega),if_pos (by omega)]
  congr 1
  omega
 ·rw[if_neg e1]
  by_cases e2:i=p
  ·rw[if_pos e2,if_neg (by omega),if_pos (by omega)]
   congr 1
   omega
  ·rw[if_neg e2]
   by_cases e3:p<i\/l.length-i<=p
   ·rw[if_pos e3,if_pos (by omega)]
   ·rw[if_neg e3,if_neg (by omega)]
section
variable {X:XF}
theorem qbi:LD X 123 1 (ae (aK 123 1) gRv):=LD.par (H:=[]) (hk:=[]) (by kernel_rfl) (by kernel_rfl) .nil .nil
 (A:=List ax) (B:=Nat×Int×Int) (fun l b=>rvH l.length (mc l b.1) b.2.1 b.2.2) (fun l b=>l.length<=1000000/\b.2.1=(b.1:Int)/\b.2.2=(l.length:Int)-1-b.1/\2*b.1<=l.length+1) (fun l b=>l.length-b.1)
 (fun l x=>x=(.exit 0,⟨28,[(0,.sl 0 0 l.length)],[(0,⟨0,some 0,nV false l.reverse⟩)]⟩))
 (by
  rintro l ⟨k,i,j⟩ ⟨hm,hi,hj,hk⟩
  dsimp only at*
  (rw[<-qek];delta nW Jv Zg FB EE FE Zr Zm Zz qJ Za Z9 Zb Zj Z5S vG Sz nN ZG)
  refine bJ (fun gn=> ?_) fun gn=> ?_
  ·have bc:i.toNat=k:=by omega
   have FG:j.toNat=l.length-1-k:=by omega
   have hrl:=gP l k
   have ei:D.nth ((mc l k).map aX) i.toNat=aX ((mc l k)[k]'(by omega)):=by rw[bc];exact ay _ _ _ (by omega)
   have ej:D.nth ((mc l k).map aX) j.toNat=aX ((mc l k)[l.length-1-k]'(by omega)):=by rw[FG];exact ay _ _ _ (by omega)
   have jj:=Lv l k (by omega)
   have dz:k≠l.length-1-k:=by omega
   rw[ei,ej]
   have hx: ∀y,((mc l k).set k y)[l.length-1-k]'(by simp;omega)=(mc l k)[l.length-1-k]'(by omega):=fun y=>by rw[List.getElem_set_ne dz]
   generalize hxx:(mc l k)[k]'(by omega)=x at*
   generalize hyy:(mc l k)[l.length-1-k]'(by omega)=y at*
   have w1:D.aY (D.agg [D.int .i64 (D.ah (D.ao (aX x) 0)),D.int .i64 (D.ah (D.ao (aX x) 1))]) [D.int .i64 (D.ah (D.ao (aX y) 0)),D.int .i64 (D.ah (D.ao (aX y) 1))]=aX y:=rfl
   have w2:D.aY (D.agg [D.int .i64 (D.ah (D.ao (aX y) 0)),D.int .i64 (D.ah (D.ao (aX y) 1))]) [D.int .i64 (D.ah (D.ao (aX x) 0)),D.int .i64 (D.ah (D.ao (aX x) 1))]=aX x:=rfl
   have e3:D.nth ((mc l k).map aX |>.set i.toNat (aX y)) j.toNat=aX y:=by
    rw[<-List.map_set,bc,FG,ay _ _ _ (by simp;omega),hx]
   rw[w1,e3,w2,<-List.map_set,<-List.map_set]
   refine ak ⟨by omega,by omega⟩ (ak (by simp;omega) (aq (l7 _) (ak ⟨by omega,by omega⟩ (ak (by simp;omega) (aq (l7 _) (ak ⟨by omega,by omega⟩ (ak (by simp;omega) (aq (l7 _) (ak ⟨by omega,by omega⟩ (ak (by simp;omega) (aq (l7 _) (ak (by omega) (ak (by omega) ?_)))))))))))))
   refine⟨l.length-(k+1),by omega,(k+1,i+1,j-1),?_,⟨hm,by show i+1=((k+1:Nat):Int);omega,by show j-1=(l.length:Int)-1-((k+1:Nat):Int);omega,by show 2*(k+1)<=l.length+1;omega⟩,rfl⟩
   dsimp only
   rw[<-jj,bc,FG]
  ·show _=_
   rw[PY l k (by omega)])
 (by
  rintro s post ⟨l,n,j,rfl,⟨rfl,hj,hn⟩,hp⟩
  refine⟨l,(0,0,j),by dsimp only;rw[Lu],⟨hn,rfl,by show j=_;omega,by show 2*0<=_;omega⟩,?_⟩
  rintro x rfl
  exact hp)
theorem qbj:FD X 123 PW:=FD.mk (H:=[]) (hk:=[(1,ae (aK 123 1) gRv)]) (by kernel_rfl) .nil (.cons qbi .nil) (by
 intro ps R post hh
 obtain⟨l,rfl,rfl,hm,hp⟩:=hh
 (rw[<-qgr];delta dV Zs nW Jv Z7 Zz qJ Za Z9)
 exact ak (by omega) ⟨l,l.length,_,rfl,⟨rfl,rfl,hm⟩,hp _ rfl⟩)
end
section
variable {X:XF} {w0:World} (hX:db PR w0 X.cf)
include hX
theorem qgt:FN w0 94 4 qbg:=FN.mk hX (H:=[]) (HN:=[]) C7 .nil .nil (base:=2000000) (keep:=Vg) (by kernel_rfl) (hk:=fun fi yt=>if Nat.beq fi XO&&Nat.beq yt 1 then [(1,dR (aK XO 1) gOn)] else [])
 (by
  intro fi yt h yw hl
  split at hl
  ·rename_i hb
   rw[Bool.and_eq_true] at hb
   have e1:=Nat.eq_of_beq_eq_true hb.1
   have e2:=Nat.eq_of_beq_eq_true hb.2
   subst e1 e2
   unfold lk at hl
   split at hl
   ·rename_i he
    have e3:=Nat.eq_of_beq_eq_true he
    subst e3
    cases hl
    exact⟨by kernel_rfl,qgq hX⟩
   ·cases hl
  ·cases hl)
 (by
  rintro s post ⟨l,m,rfl,hm,hp⟩
  rw[<-Vi]
  have e:List.take m.length (m.map bB)=m.map bB:=List.take_of_length_le (by simp)
  rw[e,List.length_map]
  exact ak (by omega) ⟨m,hm,⟨_,rfl,rfl⟩,fun c o f h1 h2=>hp c o f h1⟩)
theorem qgu:ND w0 94 qbh:=ND.mk hX (H:=[(68,xY),(123,PW)]) (HN:=[]) (hk:=[(500004,qbg)]) C7 (by kernel_rfl) (by kernel_rfl) (.cons Jt (.cons qbj .nil)) .nil (.range (qgt hX) .nil) (by
 intro ps R post hh
 obtain⟨l,rfl,rfl,hm,hp⟩:=hh
 (rw[<-qgs];delta nW qK XP dV nz Jv ny eU p8 Cz Lp xZ pP Jp Jq Z5Y lI Zw XQ)
 have hl:=EJ l
 refine⟨l,rfl,rfl,hm,fun m Sm=>⟨l,m,rfl,by rw[Sm];omega,fun c o f ho=>⟨o.map (·.1),by rw[List.length_map],rfl,?_,fun l' Nw=> ?_⟩⟩⟩
 ·have:=Ju m
  rw[List.length_map,ho]
  subst Sm
  omega
 ·have e:l'=UX l:=by rw[Nw,ho,Sm,qej]
  have e2:o.length=l'.length:=by rw[Nw];simp
  rw[e2]
  exact hp l' e)
end
end Pi
namespace Pi
open Go Go.Proofs
set_option maxRecDepth 100000
set_option maxHeartbeats 0
abbrev GQ:Hd:=((0,0),(0,0))
def PZ:S->K (PX×S):=fun st post=> ∃l out i b,st=qbc l out b i 0/\(b=false/\0<=i/\i<(l.length:Int)/\l.length<=1000000/\out.length<=1000000)/\ ∀h,h=out.any (fun y=>y.1==(l.getD i.toNat GQ).1)->post (.exit 2,⟨80,[(0,ph l),(3,.sl 0 0 out.length),(4,iD i),(5,.d (.bool h))],[(0,⟨0,none,vb false out⟩)]⟩)
def Lw (a b:Hd):Bool:=qC b.1 a.1
abbrev P0 (l out:List Hd) (n:Nat) (i k:Int):S:=⟨80,[(0,ph l),(3,.sl 0 0 n),(4,iD i),(7,iD k)],[(0,⟨0,none,vb false out⟩)]⟩
def P9:S->K (PX×S):=fun st post=> ∃l o x n i k,st=P0 l (o++[x]) n i k/\(k=(o.length:Int)/\n=o.length+1/\o.length<=1000000)/\ ∀o',o'=dy Lw o x->post (.exit 4,PQ l o' i)
def tI (k:Int):Nat×P:=(7,P.d (Zs k))
def Z65 (gl:List Hd) (ar:List Hd) (aJ:Int):En:=En.mk 0 none (Obj.arr (139:TypeId) false (Cz gl++[D.agg (Vb ar aJ)]))
def Qa (gl:List Hd) (ar:List Hd) (aJ:Int):Nat:=eU gl+List.length [D.agg (Vb ar aJ)]
def Z63 (aJ:Int) (post:PX×S->Prop) (ar:List Hd) (gl:List Hd):Prop:=bif Zj aJ then post (PX.normal,S.mk 80 (sA ar::rB gl::AF aJ) (vL gl)) else False
def CD:List (Nat×P):=[(6,P.d Z7)]
theorem Qb (l out:List Hd) (i:Int) (post:PX×S->Prop):(bif decide (i<(↑(qI l):Int)) then∃(ar:List Hd) (gl:List Hd) (aJ:Int) (b:Bool),S.mk 80 (sA l::rB out::vH i::(5,P.d Z3)::CD) (vL out)=S.mk 80 (sA ar::rB gl::vH aJ::(5,iz b)::CD) (vL gl)/\(b=false/\(0:Int)<=aJ/\aJ<rN ar/\lI ar/\lI gl)/\ ∀(h:Bool),(h=List.any gl fun(y:Hd)=>Prod.fst y==Prod.fst (List.getD ar (Zg aJ) GQ))->bif h then Z63 aJ post ar gl else bif MG aJ ar then bif uG ar aJ then bif Nat.ble (eU gl) (qI gl)&&aT (Qa gl ar aJ) 32 then bif decide (Z9<=(↑(Qa gl ar aJ):Int)-(1:Int)/\(↑(Qa gl ar aJ):Int)-(1:Int)<=Za) then∃(l:List Hd) (o:List Hd) (x:Hd) (n:Nat) (i:Int) (k:Int),S.mk 80 [sA ar,(3,P.sl 0 0 (Qa gl ar aJ)),vH aJ,(7,P.d (D.int IntKind.i64 ((↑(Qa gl ar aJ):Int)-(1:Int))))] [(0,Z65 gl ar aJ)]=S.mk 80 [sA l,(3,Zz n),vH i,tI k] [(0,En.mk 0 none (Obj.arr (139:TypeId) false (List.map bB (o++[x]))))]/\(k=rN o/\n=eU o+1/\lI o)/\ ∀(o':List Hd),o'=dy Lw o x->Z63 i post l o' else False else False else False else False else post (PX.exit 0,S.mk 80 [rB out] (vL out)))=(aF [] [(7,ae (aK 84 7) PZ),(13,ae (aK 84 13) P9)] 84 3 (PQ l out i)) post:=by kernel_rfl
def Qc:S->K (PX×S):=fun st post=> ∃l,st=PQ l [] 0/\l.length<=1000000/\ ∀o,o=cN Lw (rp l)->post (.exit 0,⟨80,[(3,.sl 0 0 o.length)],[(0,⟨0,none,vb false o⟩)]⟩)
def Z67:En:=En.mk 0 none (Obj.arr (139:TypeId) false [])
def Z68 (l:List Hd):S:=S.mk 80 (sA l::XJ) [(0,Z67)]
theorem qel (l:List Hd) (post:P×List (Nat×En)->Prop):(∃(ar:List Hd),Z68 l=Z68 ar/\lI ar/\ ∀(o:List Hd),o=cN Lw (rp ar)->post (p8 o,vL o))=(aH [] [(3,ae (aK 84 3) Qc)] 84 [ph l] []) post:=by kernel_rfl
def qbk:bm:=fun ps R post=> ∃l,ps=[ph l]/\R=[]/\l.length<=1000000/\ ∀o,o=cN Lw (rp l)->post (.sl 0 0 o.length,[(0,⟨0,none,vb false o⟩)])
def qbl:S->K (PX×S):=fun st post=> ∃l,st=Vd l [] 0/\l.length<=1000000/\ ∀o,o=l.map eV->post (.exit 0,⟨26,[(3,.sl 0 0 o.length)],[(0,⟨0,none,vb false o⟩)]⟩)
def Z69 (l:List aj):S:=S.mk 26 (lH l::XJ) [(0,Z67)]
theorem qem (l:List aj) (post:P×List (Nat×En)->Prop):(∃(ar:List aj),Z69 l=Z69 ar/\mA ar/\ ∀(o:List Hd),o=List.map eV ar->post (p8 o,vL o))=(aH [] [(3,ae (aK 44 3) qbl)] 44 [bO l] []) post:=by kernel_rfl
def Lx:bm:=fun ps R post=> ∃l,ps=[bO l]/\R=[]/\l.length<=1000000/\ ∀o,o=l.map eV->post (.sl 0 0 o.length,[(0,⟨0,none,vb false o⟩)])
abbrev qbm (m on:List Hd) (i:Int) (un:Bool) (k:Int):S:=⟨63,[(3,.sl 0 0 m.length),(4,.sl 1 0 on.length),(5,iD i),(6,.d (.bool un)),(7,iD k)],[(0,⟨0,none,vb false m⟩),(1,⟨0,none,vb false on⟩)]⟩
def Qd:S->K (PX×S):=fun st post=> ∃m on i b,st=qbm m on i b 0/\(b=false/\0<=i/\i<(m.length:Int)/\m.length<=1000000/\on.length<=1000000)/\ ∀h,h=on.any (fun y=>y.2==(m.getD i.toNat GQ).1)->post (.exit 2,⟨63,[(3,.sl 0 0 m.length),(4,.sl 1 0 on.length),(5,iD i),(6,.d (.bool h))],[(0,⟨0,none,vb false m⟩),(1,⟨0,none,vb false on⟩)]⟩)
def SA (m:List Hd) (on:List Hd):List (Nat×En):=[yx m,(1,ES on)]
def MH (i:Int):Nat×P:=(5,P.d (Zs i))
def SB (on:List Hd):Nat×P:=(4,P.sl 1 0 (eU on))
theorem Qe (m on:List Hd) (i:Int) (un:Bool) (k:Int) (post:PX×S->Prop):(bif MF k on then bif un then bif Zj k then post (PX.normal,S.mk 63 (rB m::SB on::MH i::(6,ZM)::ZJ k) (SA m on)) else False else bif CC k on then bif CB k on then bif uG on k then bif CC i m then bif CB i m then bif uG m i then bif Zj k then post (PX.normal,S.mk 63 (rB m::SB on::MH i::(6,P.d (D.bool (D.ah (D.ao (rA on k) 2)==zo m i&&(D.ah (D.ao (rA on k) 3)==CA m i&&true))))::ZJ k) (SA m on)) else False else False else False else False else False else False else False else post (PX.exit 2,S.mk 63 [rB m,SB on,MH i,(6,iz un)] (SA m on)))=(aF [] [] 53 8 (qbm m on i un k)) post:=by kernel_rfl
abbrev Vj (m on:List Hd) (i:Int):S:=⟨63,[(3,.sl 0 0 m.length),(4,.sl 1 0 on.length),(5,iD i)],[(0,⟨0,none,vb false m⟩),(1,⟨0,none,vb false on⟩)]⟩
abbrev Vk (on:List Hd) (out:List ax) (i:Int):S:=⟨63,[(4,.sl 0 0 on.length),(8,.sl 1 0 out.length),(9,iD i)],[(0,⟨0,none,vb false on⟩),(1,⟨0,none,nV false out⟩)]⟩
def Vl (i:Int):List (Nat×P):=[(9,Zr i)]
theorem qbn (on:List Hd) (out:List ax) (i:Int) (post:PX×S->Prop):(bif Z2 i then bif CC i on then bif CB i on then bif uG on i then bif Nat.ble (dV out) (List.length (List.map aX out))&&aT (dV out+List.length [Va on i]) 16 then bif Zb i then post (PX.normal,S.mk 63 ((4,p8 on)::(8,P.sl 1 0 (dV out+List.length [Va on i]))::Vl i) [yx on,(1,En.mk 0 none (Obj.arr (30:TypeId) false (List.take (dV out) (List.map aX out)++[Va on i])))]) else False else False else False else False else False else post (PX.exit 4,S.mk 63 [(8,P.sl 0 0 (dV out))] (XP out)))=(aF [] [] 53 15 (Vk on out i)) post:=by kernel_rfl
theorem Qf (m on:List Hd) (i:Int) (post:PX×S->Prop):(bif MF i m then∃(bL:List Hd) (aI:List Hd) (aJ:Int) (b:Bool),S.mk 63 (rB m::SB on::MH i::(6,P.d Z3)::ZZ) (SA m on)=S.mk 63 (rB bL::SB aI::MH aJ::(6,iz b)::ZZ) (SA bL aI)/\(b=false/\(0:Int)<=aJ/\aJ<rN bL/\lI bL/\lI aI)/\ ∀(h:Bool),(h=List.any aI fun(y:Hd)=>Prod.snd y==Prod.fst (List.getD bL (Zg aJ) GQ))->bif !h then bif CC aJ bL then bif CB aJ bL then bif uG bL aJ then bif Nat.ble (eU aI) (qI aI)&&aT (Qa aI bL aJ) 32 then bif Zj aJ then post (PX.normal,S.mk 63 (rB bL::(4,P.sl 1 0 (Qa aI bL aJ))::Zn aJ) [yx bL,(1,Z65 aI bL aJ)]) else False else False else False else False else False else bif Zj aJ then post (PX.normal,S.mk 63 (rB bL::SB aI::Zn aJ) (SA bL aI)) else False else post (PX.exit 0,S.mk 63 [(4,p8 on)] (vL on)))=(aF [] [(8,ae (aK 53 8) Qd)] 53 4 (Vj m on i)) post:=by kernel_rfl
def Qg:S->K (PX×S):=fun st post=> ∃m,st=Vj m [] 0/\m.length<=1000000/\ ∀o,o=Jh m []->post (.exit 0,⟨63,[(4,.sl 0 0 o.length)],[(0,⟨0,none,vb false o⟩)]⟩)
def Qh:S->K (PX×S):=fun st post=> ∃on i,st=Vk on [] i/\(i=(on.length:Int)-1/\on.length<=1000000)/\ ∀o,o=(on.map (·.1)).reverse->post (.exit 4,⟨63,[(8,.sl 0 0 o.length)],[(0,⟨0,none,nV false o⟩)]⟩)
def Ly (i:Int):Nat×P:=(9,P.d (Zs i))
def yy:P:=P.sl 1 0 0
def Z6g (o:List Hd):S:=S.mk 63 (rB o::(4,yy)::ZL) [yx o,(1,Z67)]
def Z6e (l:List Hd):List P:=[P.d (D.sl 4 (List.map bB l))]
theorem qen (l:List Hd) (post:P×List (Nat×En)->Prop):(∃(ar:List Hd),Z6e l=Z6e ar/\Zw/\lI ar/\ ∀(o:List Hd),o=cN Lw (rp ar)-> ∃(m:List Hd),Z6g o=Z6g m/\lI m/\ ∀(o:List Hd),o=Jh m []->bif decide (Z9<=rN o-(1:Int)/\rN o-(1:Int)<=Za) then∃(on:List Hd) (i:Int),S.mk 63 [(4,p8 o),(8,yy),(9,P.d (D.int IntKind.i64 (rN o-(1:Int))))] [yx o,(1,xZ)]=S.mk 63 [(4,p8 on),(8,yy),Ly i] [yx on,(1,xZ)]/\(i=rN on-(1:Int)/\lI on)/\ ∀(o:List ax),o=List.reverse (List.map (fun(x:Hd)=>Prod.fst x) on)->post (P.sl 0 0 (dV o),XP o) else False)=(aH [(84,qbk)] [(4,ae (aK 53 4) Qg),(15,ae (aK 53 15) Qh)] 53 [ph l] []) post:=by kernel_rfl
def qbo:bm:=fun ps R post=> ∃l,ps=[ph l]/\R=[]/\l.length<=1000000/\ ∀o,o=UX l->post (.sl 0 0 o.length,[(0,⟨0,none,nV false o⟩)])
end Pi
namespace Pi
open Go Go.Proofs
set_option maxRecDepth 100000
theorem EV {α:Type} (t:α->Bool) (l:List α) {i:Nat} (h:i<l.length):(l.take (i+1)).any t=((l.take i).any t ||t l[i]):=by
 rw[List.take_succ_eq_append_getElem h,List.any_append]
 simp
section
variable {X:XF}
theorem Qi:LD X 84 7 (ae (aK 84 7) PZ):=LD.idx (H:=[]) (hk:=[]) (by kernel_rfl) (by kernel_rfl) .nil .nil
 (A:=List Hd×List Hd×Int) (B:=Bool) (fun a b k=>qbc a.1 a.2.1 b a.2.2 k) (fun a=>a.2.1.length) (fun a k b=>(0<=a.2.2/\a.2.2<(a.1.length:Int)/\a.1.length<=1000000/\a.2.1.length<=1000000)/\b=(a.2.1.take k).any (fun y=>y.1==(a.1.getD a.2.2.toNat GQ).1))
 (fun a x=>x=(.exit 2,⟨80,[(0,ph a.1),(3,.sl 0 0 a.2.1.length),(4,iD a.2.2),(5,.d (.bool (a.2.1.any (fun y=>y.1==(a.1.getD a.2.2.toNat GQ).1))))],[(0,⟨0,none,vb false a.2.1⟩)]⟩))
 (by
  rintro⟨l,out,i⟩ b k post h0 zX eb ⟨⟨sX,bS,qp,nM⟩,hb⟩ hn ho
  dsimp only at*
  (rw[<-PO];delta iz Zg rA CA zo qI MG uG CB eU rN CC ES yx vL Zm Zy ZM Zs vH p8 rB sA Za Z9 Zj MF)
  have e1:D.nth (out.map bB) k.toNat=bB out[k.toNat]:=ay _ _ _ eb
  have bc:i.toNat<l.length:=by omega
  have e2:D.nth (l.map bB) i.toNat=bB l[i.toNat]:=ay _ _ _ bc
  have DA:=EV (fun y:Hd=>y.1==(l.getD i.toNat GQ).1) out eb
  rw[e1,e2]
  simp only[List.length_map]
  refine bV zX (aw (fun h=>ak (by omega) (hn _ ⟨⟨sX,bS,qp,nM⟩,?_⟩)) fun h=>ak ⟨h0,zX⟩ (ak eb (aq (qa _) (ak ⟨sX,bS⟩ (aq (qa _) (ak (by omega) (hn _ ⟨⟨sX,bS,qp,nM⟩,?_⟩)))))))
  ·rw[DA,<-hb,h]
   rfl
  ·rw[DA,<-hb,h,Bool.false_or,dK bc]
   exact Ch out[k.toNat].1 l[i.toNat].1)
 (by
  rintro⟨l,out,i⟩ b k post hk ⟨h1,hb⟩ ho
  dsimp only at*
  (rw[<-PO];delta iz Zg rA CA zo qI MG uG CB eU rN CC ES yx vL Zm Zy ZM Zs vH p8 rB sA Za Z9 Zj MF)
  refine nv (by omega) (ho _ (fun h=>by cases h) ?_)
  rw[hb,List.take_length])
 (by
  rintro s post ⟨l,out,i,b,rfl,⟨hb,h1⟩,hp⟩
  refine⟨(l,out,i),b,rfl,⟨h1,by rw[hb];simp⟩,?_⟩
  rintro x rfl
  exact hp _ rfl)
theorem Qj:LD X 84 13 (ae (aK 84 13) P9):=LD.ins (H:=[(14,o6)]) (hk:=[]) (by kernel_rfl) (by kernel_rfl) (.cons xK .nil) .nil
 (A:=List Hd×Int×Nat) (α:=Hd) (fun a o k=>P0 a.1 o a.2.2 a.2.1 k) Lw (fun a=>a.2.2) (fun _=>True) (fun a o=>(.exit 4,⟨80,[(0,ph a.1),(3,.sl 0 0 a.2.2),(4,iD a.2.1)],[(0,⟨0,none,vb false o⟩)]⟩)) (fun _ _ h=>by cases h)
 (by
  rintro⟨l,i,n⟩ o k post _ h0 Lz nM hk hz b9 fM
  dsimp only at*
  subst Lz
  (rw[<-qbd];delta ES yx vL Zs vH C6 Zg rA CA zo Vb Zr eU p8 rB sA Zc Vc XM Zw mr nq ED Va uG qI CB rN CC Z5K Za Z9 Zb Zq)
  refine bJ (fun hp=> ?_) fun hp=>hz (by omega)
  have gh:k.toNat-1<o.length:=by omega
  have e1:D.nth (o.map bB) k.toNat=bB o[k.toNat]:=ay _ _ _ hk
  have e2:D.nth (o.map bB) (k-1).toNat=bB o[k.toNat-1]:=by rw[show(k-1).toNat=k.toNat-1 by omega];exact ay _ _ _ gh
  have b9:=b9 hp
  have fM:=fM hp
  rw[e1,e2]
  have CG:=mb bB o k.toNat o[k.toNat] o[k.toNat-1]
  have Gp:=Ls o k.toNat o[k.toNat] o[k.toNat-1]
  have e3: ∀z,D.nth ((o.map bB).set k.toNat z) (k-1).toNat=bB o[k.toNat-1]:=fun z=>by
   rw[show(k-1).toNat=k.toNat-1 by omega]
   unfold D.nth
   rw[List.getD_eq_getElem?_getD,List.getElem?_set_ne (by omega)]
   simp[gh]
  generalize o[k.toNat]=x at*
  generalize o[k.toNat-1]=y at*
  have w1:D.aY (D.agg [D.int .i64 (D.ah (D.ao (bB x) 0)),D.int .i64 (D.ah (D.ao (bB x) 1)),D.int .i64 (D.ah (D.ao (bB x) 2)),D.int .i64 (D.ah (D.ao (bB x) 3))]) [D.int .i64 (D.ah (D.ao (bB y) 0)),D.int .i64 (D.ah (D.ao (bB y) 1)),D.int .i64 (D.ah (D.ao (bB y) 2)),D.int .i64 (D.ah (D.ao (bB y) 3))]=bB y:=rfl
  have w2:D.aY (D.agg [D.int .i64 (D.ah (D.ao (bB y) 0)),D.int .i64 (D.ah (D.ao (bB y) 1)),D.int .i64 (D.ah (D.ao (bB y) 2)),D.int .i64 (D.ah (D.ao (bB y) 3))]) [D.int .i64 (D.ah (D.ao (bB x) 0)),D.int .i64 (D.ah (D.ao (bB x) 1)),D.int .i64 (D.ah (D.ao (bB x) 2)),D.int .i64 (D.ah (D.ao (bB x) 3))]=bB x:=rfl
  rw[w1,e3,w2,show(k-1).toNat=k.toNat-1 by omega,CG]
  simp only[P0,List.length_map,List.length_set] at fM⊢
  have CH:0<=k/\k<(o.length:Int):=⟨h0,by omega⟩
  have CI:0<=k-1/\k-1<(o.length:Int):=⟨by omega,by omega⟩
  have hf:(-9223372036854775808:Int)<=k-1/\k-1<=9223372036854775807:=by omega
  refine ak hf (ak CI (ak gh (aq (qa _) (ak CH (ak hk (aq (qa _) ⟨y.1,x.1,rfl,rfl,fun r hr=>aw (fun h=> ?_) fun h=>b9 (by rw[<-h,hr];rfl)⟩))))))
  refine ak hf (ak hf (ak CI (ak gh (aq (qa _) (ak CH (ak hk (aq (qa _) (ak CH (ak hk (aq (qa _) (ak CI (ak gh (aq (qa _) (ak hf ?_))))))))))))))
  exact fM (by rw[<-h,hr];rfl))
 (by
  rintro s post ⟨l,o,x,n,i,k,rfl,⟨hk,hn,ho⟩,hp⟩
  refine⟨(l,i,n),o,x,k,rfl,hk,trivial,⟨hn.symm,ho⟩,?_⟩
  have:=hp _ rfl
  rw[PQ,pg,<-hn] at this
  exact this)
theorem Qk:LD X 84 3 (ae (aK 84 3) Qc):=LD.idx (H:=[]) (hk:=[(7,ae (aK 84 7) PZ),(13,ae (aK 84 13) P9)]) (by kernel_rfl) (by kernel_rfl) .nil (.cons Qi (.cons Qj .nil))
 (A:=List Hd) (B:=List Hd) (fun l o i=>PQ l o i) (fun l=>l.length) (fun l i o=>l.length<=1000000/\o=cN Lw (rp (l.take i)))
 (fun l x=>x=(.exit 0,⟨80,[(3,.sl 0 0 (cN Lw (rp l)).length)],[(0,⟨0,none,vb false (cN Lw (rp l))⟩)]⟩))
 (by
  rintro l o i post h0 bS bc ⟨qp,ho⟩ hn cp
  (rw[<-Qb];delta Zs tI Zz Zg rA CA zo Vb eU Cz Z65 Za Z9 Qa uG qI MG ES yx vL Zm AF p8 rB sA Zj Z63 lI rN iz Z7 CD Z3 vH)
  have nM:o.length<=i.toNat:=by
   rw[ho,pO]
   have:=pM (l.take i.toNat)
   rw[List.length_take] at this
   omega
  have e2:D.nth (l.map bB) i.toNat=bB l[i.toNat]:=ay _ _ _ bc
  have hg:=dK bc GQ
  have qH:=ET bc
  have HI:(o.any fun y=>y.1==l[i.toNat].1)=((rp (l.take i.toNat)).any fun y=>y.1==l[i.toNat].1):=by rw[ho];exact(cW _).any_eq
  generalize l[i.toNat]=g at hg qH HI e2
  have t2:D.agg [D.int .i64 (D.ah (D.ao (bB g) 0)),D.int .i64 (D.ah (D.ao (bB g) 1)),D.int .i64 (D.ah (D.ao (bB g) 2)),D.int .i64 (D.ah (D.ao (bB g) 3))]=bB g:=rfl
  rw[List.length_map]
  refine bV bS ⟨l,o,i,false,rfl,⟨rfl,h0,bS,qp,by omega⟩,fun h hh=> ?_⟩
  rw[hg] at hh
  rw[e2,t2]
  simp only[List.length_map,List.length_cons,List.length_nil,Nat.zero_add]
  refine aw (fun h1=>ak (by omega) (hn _ ⟨qp,?_⟩)) fun h1=>ak ⟨h0,bS⟩ (aq (qa _) (aq ?_ (ak (by omega) ⟨l,o,g,o.length+1,i,((o.length+1:Nat):Int)-1,?_,⟨by omega,rfl,by omega⟩,fun o' lW=>ak (by omega) (hn _ ⟨qp,?_⟩)⟩)))
  ·rw[qH,Jr (by rw[<-HI,<-hh,h1]),ho]
  ·rw[Bool.and_eq_true]
   exact⟨by simp,cD (by omega) (by omega)⟩
  ·rw[dU]
  ·rw[qH,Js (by rw[<-HI,<-hh,h1]),xX,<-ho,lW])
 (by
  rintro l o i post hi ⟨qp,ho⟩ cp
  (rw[<-Qb];delta Zs tI Zz Zg rA CA zo Vb eU Cz Z65 Za Z9 Qa uG qI MG ES yx vL Zm AF p8 rB sA Zj Z63 lI rN iz Z7 CD Z3 vH)
  simp only[List.length_map]
  refine nv (by omega) (cp _ (fun h=>by cases h) ?_)
  rw[ho,List.take_length])
 (by
  rintro s post ⟨l,rfl,hs,hp⟩
  refine⟨l,[],rfl,⟨hs,rfl⟩,?_⟩
  rintro x rfl
  exact hp _ rfl)
theorem qeo:FD X 84 qbk:=FD.mk (H:=[]) (hk:=[(3,ae (aK 84 3) Qc)]) (by kernel_rfl) .nil (.cons Qk .nil) (by
 intro ps R post hh
 obtain⟨l,rfl,rfl,hs,hp⟩:=hh
 (rw[<-qel];delta ES yx vL eU p8 lI Z67 Z7 UR ZO XJ sA Z68)
 exact⟨l,rfl,hs,fun o ho=>hp o ho⟩)
theorem Vm:LD X 44 3 (ae (aK 44 3) qbl):=LD.idx (H:=[]) (hk:=[]) (by kernel_rfl) (by kernel_rfl) .nil .nil
 (A:=List aj) (B:=List Hd) (fun l o i=>Vd l o i) (fun l=>l.length) (fun l i o=>l.length<=1000000/\o=(l.take i).map eV)
 (fun l x=>x=(.exit 0,⟨26,[(3,.sl 0 0 (l.map eV).length)],[(0,⟨0,none,vb false (l.map eV)⟩)]⟩))
 (by
  rintro l o i post h0 bS bc ⟨qp,ho⟩ hn cp
  (rw[<-PS];delta ES yx vL eU p8 rB Zg cK fQ Sy lG mz Cz Zm AF fR lH Za Z9 Zj Z5P qI c8 gO pc u7)
  have nM:o.length<=i.toNat:=by rw[ho];simp;omega
  have e2:D.nth (l.map aP) i.toNat=aP l[i.toNat]:=ay _ _ _ bc
  have vM:(l.take (i.toNat+1)).map eV=o++[eV l[i.toNat]]:=by rw[List.take_succ_eq_append_getElem bc,List.map_append,ho];rfl
  generalize l[i.toNat]=g at e2 vM
  have t2:D.agg [D.int .i64 (D.ah (D.ao (aP g) 0)),D.int .i64 (D.ah (D.ao (aP g) 1)),D.int .i64 (D.ah (D.ao (aP g) 4)),D.int .i64 (D.ah (D.ao (aP g) 5))]=bB (eV g):=rfl
  rw[e2,t2,dU]
  simp only[List.length_map,List.length_cons,List.length_nil,Nat.zero_add]
  refine bV bS (ak ⟨h0,bS⟩ (aq (df _) (ak ⟨h0,bS⟩ (aq (df _) (aq ?_ (ak (by omega) ?_))))))
  ·rw[Bool.and_eq_true]
   exact⟨by simp,cD (by omega) (by omega)⟩
  ·have:=hn (o++[eV g]) ⟨qp,vM.symm⟩
   simp only[Vd,List.length_append,List.length_cons,List.length_nil,Nat.zero_add] at this
   exact this)
 (by
  rintro l o i post hi ⟨qp,ho⟩ cp
  (rw[<-PS];delta ES yx vL eU p8 rB Zg cK fQ Sy lG mz Cz Zm AF fR lH Za Z9 Zj Z5P qI c8 gO pc u7)
  simp only[List.length_map]
  refine nv (by omega) (cp _ (fun h=>by cases h) ?_)
  rw[ho,List.take_length])
 (by
  rintro s post ⟨l,rfl,hs,hp⟩
  refine⟨l,[],rfl,⟨hs,rfl⟩,?_⟩
  rintro x rfl
  exact hp _ rfl)
theorem XR:FD X 44 Lx:=FD.mk (H:=[]) (hk:=[(3,ae (aK 44 3) qbl)]) (by kernel_rfl) .nil (.cons Vm .nil) (by
 intro ps R post hh
 obtain⟨l,rfl,rfl,hs,hp⟩:=hh
 (rw[<-qem];delta ES yx vL eU p8 dm mA Z67 Z7 UR ZO XJ cK fR lH Z69)
 exact⟨l,rfl,hs,fun o ho=>hp o ho⟩)
theorem Ql:LD X 53 8 (ae (aK 53 8) Qd):=LD.idx (H:=[]) (hk:=[]) (by kernel_rfl) (by kernel_rfl) .nil .nil
 (A:=List Hd×List Hd×Int) (B:=Bool) (fun a b k=>qbm a.1 a.2.1 a.2.2 b k) (fun a=>a.2.1.length) (fun a k b=>(0<=a.2.2/\a.2.2<(a.1.length:Int)/\a.1.length<=1000000/\a.2.1.length<=1000000)/\b=(a.2.1.take k).any (fun y=>y.2==(a.1.getD a.2.2.toNat GQ).1))
 (fun a x=>x=(.exit 2,⟨63,[(3,.sl 0 0 a.1.length),(4,.sl 1 0 a.2.1.length),(5,iD a.2.2),(6,.d (.bool (a.2.1.any (fun y=>y.2==(a.1.getD a.2.2.toNat GQ).1))))],[(0,⟨0,none,vb false a.1⟩),(1,⟨0,none,vb false a.2.1⟩)]⟩))
 (by
  rintro⟨l,out,i⟩ b k post h0 zX eb ⟨⟨sX,bS,qp,nM⟩,hb⟩ hn ho
  dsimp only at*
  (rw[<-Qe];delta iz Zg rA CA zo uG qI CB eU rN CC ES yx SA Zm ZJ ZM Zs MH SB p8 rB Za Z9 Zj MF)
  have e1:D.nth (out.map bB) k.toNat=bB out[k.toNat]:=ay _ _ _ eb
  have bc:i.toNat<l.length:=by omega
  have e2:D.nth (l.map bB) i.toNat=bB l[i.toNat]:=ay _ _ _ bc
  have DA:=EV (fun y:Hd=>y.2==(l.getD i.toNat GQ).1) out eb
  rw[e1,e2]
  simp only[List.length_map]
  refine bV zX (aw (fun h=>ak (by omega) (hn _ ⟨⟨sX,bS,qp,nM⟩,?_⟩)) fun h=>ak ⟨h0,zX⟩ (ak eb (aq (qa _) (ak ⟨sX,bS⟩ (ak bc (aq (qa _) (ak (by omega) (hn _ ⟨⟨sX,bS,qp,nM⟩,?_⟩))))))))
  ·rw[DA,<-hb,h]
   rfl
  ·rw[DA,<-hb,h,Bool.false_or,dK bc]
   exact Ch out[k.toNat].2 l[i.toNat].1)
 (by
  rintro⟨l,out,i⟩ b k post hk ⟨h1,hb⟩ ho
  dsimp only at*
  (rw[<-Qe];delta iz Zg rA CA zo uG qI CB eU rN CC ES yx SA Zm ZJ ZM Zs MH SB p8 rB Za Z9 Zj MF)
  refine nv (by omega) (ho _ (fun h=>by cases h) ?_)
  rw[hb,List.take_length])
 (by
  rintro s post ⟨l,out,i,b,rfl,⟨hb,h1⟩,hp⟩
  refine⟨(l,out,i),b,rfl,⟨h1,by rw[hb];simp⟩,?_⟩
  rintro x rfl
  exact hp _ rfl)
theorem Qm {l:List Hd} {i:Nat} (h:i<l.length):Jh (l.take (i+1)) []=Pr (Jh (l.take i) []) l[i]:=by
 rw[List.take_succ_eq_append_getElem h]
 unfold Jh
 rw[List.foldl_append]
 rfl
theorem Qn:LD X 53 4 (ae (aK 53 4) Qg):=LD.idx (H:=[]) (hk:=[(8,ae (aK 53 8) Qd)]) (by kernel_rfl) (by kernel_rfl) .nil (.cons Ql .nil)
 (A:=List Hd) (B:=List Hd) (fun m on i=>Vj m on i) (fun m=>m.length) (fun m i on=>m.length<=1000000/\on=Jh (m.take i) [])
 (fun m x=>x=(.exit 0,⟨63,[(4,.sl 0 0 (Jh m []).length)],[(0,⟨0,none,vb false (Jh m [])⟩)]⟩))
 (by
  rintro m on i post h0 bS bc ⟨qp,ho⟩ hn cp
  (rw[<-Qf];delta ES yx vL eU p8 Zg rA CA zo Vb Cz Z65 Zm Zn Za Z9 Zj Qa qI uG CB rN CC lI iz SA Z7 ZZ Z3 Zs MH SB rB MF)
  have nM:on.length<=i.toNat:=by
   rw[ho]
   have:=sx (m.take i.toNat) []
   rw[List.length_take] at this
   simp at this
   omega
  have e2:D.nth (m.map bB) i.toNat=bB m[i.toNat]:=ay _ _ _ bc
  have hg:=dK bc GQ
  have qH:=Qm bc
  generalize m[i.toNat]=g at hg qH e2
  have t2:D.agg [D.int .i64 (D.ah (D.ao (bB g) 0)),D.int .i64 (D.ah (D.ao (bB g) 1)),D.int .i64 (D.ah (D.ao (bB g) 2)),D.int .i64 (D.ah (D.ao (bB g) 3))]=bB g:=rfl
  refine bV bS ⟨m,on,i,false,rfl,⟨rfl,h0,bS,qp,by omega⟩,fun h hh=> ?_⟩
  rw[hg] at hh
  rw[e2,t2,dU]
  simp only[List.length_map,List.length_cons,List.length_nil,Nat.zero_add]
  refine aw (fun h1=>ak ⟨h0,bS⟩ (ak bc (aq (qa _) (aq ?_ (ak (by omega) ?_))))) fun h1=>ak (by omega) (hn _ ⟨qp,?_⟩)
  ·rw[Bool.and_eq_true]
   exact⟨by simp,cD (by omega) (by omega)⟩
  ·have hf:(on.any fun y=>y.2==g.1)=false:=by rw[<-hh];simpa using h1
   have:=hn (on++[g]) ⟨qp,by rw[qH,<-ho,Pr,if_neg (by rw[hf];simp)]⟩
   simp only[Vj,List.length_append,List.length_cons,List.length_nil,Nat.zero_add] at this
   exact this
  ·have hf:(on.any fun y=>y.2==g.1)=true:=by rw[<-hh];simpa using h1
   rw[qH,<-ho,Pr,if_pos hf])
 (by
  rintro m on i post hi ⟨qp,ho⟩ cp
  (rw[<-Qf];delta ES yx vL eU p8 Zg rA CA zo Vb Cz Z65 Zm Zn Za Z9 Zj Qa qI uG CB rN CC lI iz SA Z7 ZZ Z3 Zs MH SB rB MF)
  refine nv (by omega) (cp _ (fun h=>by cases h) ?_)
  rw[ho,List.take_length])
 (by
  rintro s post ⟨m,rfl,hs,hp⟩
  refine⟨m,[],rfl,⟨hs,rfl⟩,?_⟩
  rintro x rfl
  exact hp _ rfl)
theorem Qo:LD X 53 15 (ae (aK 53 15) Qh):=LD.par (H:=[]) (hk:=[]) (by kernel_rfl) (by kernel_rfl) .nil .nil
 (A:=List Hd) (B:=Nat×List ax×Int) (fun on b=>Vk on b.2.1 b.2.2) (fun on b=>on.length<=1000000/\b.1<=on.length/\b.2.2=(b.1:Int)-1/\b.2.1=((on.drop b.1).map (·.1)).reverse) (fun _ b=>b.1)
 (fun on x=>x=(.exit 4,⟨63,[(8,.sl 0 0 ((on.map (·.1)).reverse).length)],[(0,⟨0,none,nV false ((on.map (·.1)).reverse)⟩)]⟩))
 (by
  rintro on ⟨k,out,i⟩ ⟨hm,hk,hi,ho⟩
  dsimp only at*
  (rw[<-qbn];delta nW qK XP ES yx Zr Vl eU p8 Za Z9 Zb Zg rA CA zo Va dV uG qI CB rN CC Z2)
  cases k with
  |zero=>
   refine nv (by omega) ?_
   rw[ho,List.drop_zero]
   rfl
  |succ k=>
   have bk:k<on.length:=by omega
   have nM:out.length<=on.length:=by rw[ho];simp
   have Fx:i.toNat=k:=by omega
   have e1:D.nth (on.map bB) i.toNat=bB on[k]:=by rw[Fx];exact ay _ _ _ bk
   have hd:on.drop k=on[k]::on.drop (k+1):=List.drop_eq_getElem_cons bk
   generalize on[k]=h at e1 hd
   have t2:D.agg [D.int .i64 (D.ah (D.ao (bB h) 0)),D.int .i64 (D.ah (D.ao (bB h) 1))]=aX h.1:=rfl
   rw[e1,t2,dU]
   simp only[List.length_map,List.length_cons,List.length_nil,Nat.zero_add]
   refine bV (by omega) (ak ⟨by omega,by omega⟩ (ak (by omega) (aq (qa _) (aq ?_ (ak (by omega) ?_)))))
   ·rw[Bool.and_eq_true]
    exact⟨by simp,cD (by omega) (by omega)⟩
   ·refine⟨k,Nat.lt_succ_self k,(k,out++[h.1],i-1),?_,⟨hm,by show k<=_;omega,by show i-1=(k:Int)-1;omega,?_⟩,rfl⟩
    ·simp only[Vk,List.length_append,List.length_cons,List.length_nil,Nat.zero_add]
    ·show out++[h.1]=_
     rw[hd,ho]
     simp)
 (by
  rintro s post ⟨on,i,rfl,⟨hi,hm⟩,hp⟩
  refine⟨on,(on.length,[],i),rfl,⟨hm,Nat.le_refl _,hi,by simp⟩,?_⟩
  rintro x rfl
  exact hp _ rfl)
theorem LA (l:List Hd):cN Lw (rp l)=(u4 l).reverse:=by
 have hp:(cN Lw (rp l)).reverse.Perm (rp l):=(List.reverse_perm _).trans (cW _)
 have hw:(cN Lw (rp l)).Pairwise (fun x y=>qC x.1 y.1=false):=by
  have lin:Hj (fun a b:ax=>qC b a):=⟨fun x=>qE.Mx x,fun x y z h1 h2=>qE.tr z y x h2 h1,fun x y h1 h2=>(qE.sM y x h1 h2).symm⟩
  exact pJ lin (fun h:Hd=>h.1) (rp l)
 have e:=Jg hp (by rw[List.pairwise_reverse];exact hw)
 rw[<-e,List.reverse_reverse]
theorem qep:FD X 53 qbo:=FD.mk (H:=[(84,qbk)]) (hk:=[(4,ae (aK 53 4) Qg),(15,ae (aK 53 15) Qh)]) (by kernel_rfl) (.cons qeo .nil) (.cons Qn (.cons Qo .nil)) (by
 intro ps R post hh
 obtain⟨l,rfl,rfl,hs,hp⟩:=hh
 (rw[<-qen];delta nW qK XP dV Zs Ly xZ ES yx yy eU p8 Za rN Z9 Z67 Z7 ZL rB Z6g lI Zw Z6e)
 refine⟨l,rfl,rfl,hs,fun o ho=>⟨o,rfl,?_,fun o2 ho2=> ?_⟩⟩
 ·rw[ho,pO]
  have:=pM l
  omega
 ·have hl:o2.length<=1000000:=by
   have h1:=sx o []
   have h2:o.length<=l.length:=by rw[ho,pO];exact pM l
   rw[ho2]
   simp at h1
   omega
  refine ak (by omega) ⟨o2,_,rfl,⟨rfl,hl⟩,fun o3 ho3=>hp o3 ?_⟩
  rw[ho3,ho2,ho,LA]
  rfl)
end
end Pi
namespace Pi
open Go Go.Proofs
set_option maxRecDepth 100000
set_option maxHeartbeats 0
abbrev Qp (a:ax):Obj:= .box 30 [iD a.1,iD a.2]
abbrev rr2 (l:List Hd) (x:ax) (ev:Bool) (n a i:Int):S:=⟨52,[(0,ph l),(3,.ref 0 0 0),(4,.ref 1 0 0),(7,.d (.bool ev)),(8,iD n),(9,iD a),(10,iD i)],[(0,⟨0,none,Qp x⟩),(1,⟨0,none,.box 30 [iD 0,iD 0]⟩)]⟩
def SC (x:ax):List (Nat×En):=[vK x,(1,p9)]
def Z6l (i:Int):List (Nat×P):=[(10,Zr i)]
def zq (n:Int):Nat×P:=(8,P.d (Zs n))
def pQ (ev:Bool):Nat×P:=(7,iz ev)
def HJ:Nat×P:=(4,iM)
theorem qeq (l:List Hd) (x:ax) (ev:Bool) (n a i:Int) (post:PX×S->Prop):(bif Z2 i then bif MG i l then bif uG l i then bif zo l i==Prod.fst x&&(CA l i==Prod.snd x&&true) then bif Zb i then post (PX.normal,S.mk 52 (sA l::dG::HJ::pQ ev::zq n::Ly i::Z6l i) (SC x)) else False else bif Zb i then post (PX.normal,S.mk 52 (sA l::dG::HJ::pQ ev::zq n::Ly a::Z6l i) (SC x)) else False else False else False else post (PX.exit 2,S.mk 52 [sA l,dG,HJ,pQ ev,zq n,Ly a] (SC x)))=(aF [] [] 43 7 (rr2 l x ev n a i)) post:=by kernel_rfl
def C8 (l:List Hd) (x:ax):Int:=ja (fun h:Hd=>h.1==x) l
def qbp:S->K (PX×S):=fun st post=> ∃l x ev n a i,st=rr2 l x ev n a i/\(a= -1/\i=(l.length:Int)-1/\l.length<=1000000)/\ ∀b:Int,b=C8 l x->post (.exit 2,⟨52,[(0,ph l),(3,.ref 0 0 0),(4,.ref 1 0 0),(7,.d (.bool ev)),(8,iD n),(9,iD b)],[(0,⟨0,none,Qp x⟩),(1,⟨0,none,.box 30 [iD 0,iD 0]⟩)]⟩)
abbrev rr1 (l:List Hd) (x:ax) (ev:Bool) (n:Int):S:=⟨52,[(0,ph l),(3,.ref 0 0 0),(4,.ref 1 0 0),(7,.d (.bool ev)),(8,iD n)],[(0,⟨0,none,Qp x⟩),(1,⟨0,none,.box 30 [iD 0,iD 0]⟩)]⟩
def rC (cj:Int):List (Nat×P):=[(8,P.d (Zm cj))]
def EW (aM:ax):List (Nat×En):=[vK aM]
def pj:Nat×En:=(0,p9)
def LB:List (Nat×En):=[pj]
def jR:Nat×P:=(4,bQ)
theorem XS (l:List Hd) (x:ax) (ev:Bool) (n:Int) (post:PX×S->Prop):(bif decide (n<=(↑(qI l):Int)) then bif decide (Z9<=(↑(qI l):Int)-(1:Int)/\(↑(qI l):Int)-(1:Int)<=Za) then∃(ar:List Hd) (aM:ax) (qbq:Bool) (cj:Int) (a:Int) (i:Int),S.mk 52 [sA l,dG,HJ,pQ ev,zq n,(9,I0),(10,P.d (D.int IntKind.i64 ((↑(qI l):Int)-(1:Int))))] (SC x)=S.mk 52 [sA ar,dG,HJ,pQ qbq,zq cj,Ly a,(10,P.d (Zs i))] (SC aM)/\(a=(-1:Int)/\i=rN ar-(1:Int)/\lI ar)/\ ∀(b:Int),b=C8 ar aM->bif K4 b then post (PX.ret,S.mk 52 [jR,(5,P.d Z3),(6,P.d (D.int IntKind.i64 (111:Int)))] LB) else bif MG b ar then bif uG ar b then bif D.ah (D.ao (rA ar b) 2)==(0:Int)&&(D.ah (D.ao (rA ar b) 3)==(0:Int)&&true) then post (PX.ret,S.mk 52 (jR::(5,iz qbq)::CD) (EW aM)) else bif MG b ar then bif uG ar b then bif Zj cj then post (PX.normal,S.mk 52 (sA ar::dG::HJ::(7,P.d (D.bool !qbq))::rC cj) [(0,En.mk 0 none (Obj.box (30:TypeId) [P.d (D.int IntKind.i64 (D.ah (D.ao (rA ar b) 2))),P.d (D.int IntKind.i64 (D.ah (D.ao (rA ar b) 3)))])),(1,p9)]) else False else False else False else False else False else False else post (PX.exit 0,S.mk 52 [jR] LB))=(aF [] [(7,ae (aK 43 7) qbp)] 43 3 (rr1 l x ev n)) post:=by kernel_rfl
def qbr:S->K (PX×S):=fun st post=> ∃l x,st=rr1 l x true 0/\l.length<=1000000/\(∀e r ev,fP l x=(e,r,ev)->post (.ret,⟨52,[(4,.ref 0 0 0),(5,.d (.bool ev)),(6,iD e)],[(0,⟨0,none,Qp r⟩)]⟩))/\(fP l x=(11,(0,0),false)->post (.exit 0,⟨52,[(4,.ref 0 0 0)],[(0,⟨0,none,.box 30 [iD 0,iD 0]⟩)]⟩))
def Z6v (post:P×List (Nat×En)->Prop):Prop:=post (P.da [P.d (D.agg [Z7,Z7]),P.d Z3,P.d (D.int IntKind.i64 (11:Int))],[])
def Z6u (ar:List Hd) (aM:ax) (post:P×List (Nat×En)->Prop):Prop:= ∀(e:Int) (r:ax) (ev:Bool),fP ar aM=(e,r,ev)->post (P.da (P.d (mr r)::iz ev::Zu e),[])
def MI:List (Nat×P):=[(8,P.d Z7)]
def Z6t (l:List Hd) (x:ax):S:=S.mk 52 (sA l::dG::HJ::(7,ZM)::MI) (SC x)
theorem qgv (l:List Hd) (x:ax) (post:P×List (Nat×En)->Prop):(∃(ar:List Hd) (aM:ax),Z6t l x=Z6t ar aM/\lI ar/\Z6u ar aM post/\(fP ar aM=((11:Int),((0:Int),(0:Int)),false)->Z6v post))=(aH [] [(3,ae (aK 43 3) qbr)] 43 [ph l,.d (aX x)] []) post:=by kernel_rfl
def hRr:bm:=fun ps R post=> ∃l x,ps=[ph l,.d (aX x)]/\R=[]/\l.length<=1000000/\ ∀e r ev,fP l x=(e,r,ev)->post (.da [.d (aX r),.d (.bool ev),iD e],[])
def qbs:S->K (PX×S):=fun st post=> ∃l m x,st=er1 l m x (fun _=>none) 0 0/\(m.length<=1000000/\(m.map (·.1)).Nodup)/\ ∀f c,(∀y:ax,f (aX y)=(m.find? (fun h=>h.1==y)).map bB)->post (.exit 0,⟨59,[(0,vd l),(1,ve l),(5,.ref 0 0 0),(6,.ref 1 0 0),(10,.mp 2 0)],[(0,⟨0,none,Qp x⟩),(1,⟨0,none,.box 30 [iD 0,iD 0]⟩),(2,⟨0,none,XB f c⟩)]⟩)
abbrev er2 (x:ax) (ev:Bool) (f:D->Option D) (c n i:Int):S:=⟨59,[(5,.ref 0 0 0),(6,.ref 1 0 0),(7,.d (.bool ev)),(10,.mp 2 0),(35,iD n),(36,iD i)],[(0,⟨0,none,Qp x⟩),(1,⟨0,none,.box 30 [iD 0,iD 0]⟩),(2,⟨0,none,XB f c⟩)]⟩
def Vn:List D:=[Z7,Z7,Z7,Z7]
theorem Qq (x:ax) (ev:Bool) (f:D->Option D) (c n i:Int) (post:PX×S->Prop):(bif ZG i n then bif cX PR (132:TypeId) (cm (f (mr x)) (D.agg Vn)) then bif !Option.isSome (f (mr x)) then post (PX.ret,S.mk 59 [(6,bQ),(7,P.d Z3),(8,P.d (D.int IntKind.i64 (111:Int)))] LB) else bif D.ah (D.ao (cm (f (mr x)) (D.agg Vn)) 2)==(0:Int)&&(D.ah (D.ao (cm (f (mr x)) (D.agg Vn)) 3)==(0:Int)&&true) then post (PX.ret,S.mk 59 ((6,bQ)::pQ ev::MI) (EW x)) else bif Zj i then post (PX.normal,S.mk 59 [PL,PK,(7,P.d (D.bool !ev)),PJ,(35,P.d (Zs n)),(36,P.d (Zm i))] [(0,En.mk 0 none (Obj.box (30:TypeId) [P.d (D.int IntKind.i64 (D.ah (D.ao (cm (f (mr x)) (D.agg Vn)) 2))),P.d (D.int IntKind.i64 (D.ah (D.ao (cm (f (mr x)) (D.agg Vn)) 3)))])),(1,p9),(2,zm f c)]) else False else False else post (PX.exit 2,S.mk 59 [(6,bQ),pQ ev] LB))=(aF [] [] 37 10 (er2 x ev f c n i)) post:=by kernel_rfl
def qbt:S->K (PX×S):=fun st post=> ∃l x f c n,st=er2 x true f c n 0/\(n=(l.length:Int)+1/\l.length<=1000000/\ ∀y:ax,f (aX y)=(l.find? (fun h=>h.1==y)).map bB)/\(∀e r ev,fP l x=(e,r,ev)->post (.ret,⟨59,[(6,.ref 0 0 0),(7,.d (.bool ev)),(8,iD e)],[(0,⟨0,none,Qp r⟩)]⟩))/\(fP l x=(11,(0,0),false)-> ∀ev:Bool,post (.exit 2,⟨59,[(6,.ref 0 0 0),(7,.d (.bool ev))],[(0,⟨0,none,.box 30 [iD 0,iD 0]⟩)]⟩))
def Qr (bL:List Hd):Prop:=lI bL/\List.Nodup (List.map (fun(x:Hd)=>Prod.fst x) bL)
def Z6x (l:List Hd) (m:List Hd) (x:ax):S:=S.mk 59 [Jq l,Jp l,PL,PK,PJ,(19,P.sl 3 0 (eU m)),(20,P.d (D.int IntKind.i64 (rN m))),(21,P.d Z7)] [vK x,(1,p9),(2,Lp),(3,PH m)]
theorem qgw (l:List Hd) (x:ax) (post:P×List (Nat×En)->Prop):(∃(ar:List Hd),XQ l=XQ ar/\Zw/\lI ar/\ ∀(m:List Hd),m=u4 ar-> ∃(gq:List Hd) (bL:List Hd) (aM:ax),Z6x l m x=Z6x gq bL aM/\Qr bL/\ ∀(f:D->Option D) (c:Int),(∀(y:ax),f (aX y)=Option.map bB (List.find? (fun(h:Hd)=>Prod.fst h==y) bL))->bif decide (Z9<=Sx gq+(1:Int)/\Sx gq+(1:Int)<=Za) then∃(l:List Hd) (x:ax) (dB:D->Option D) (dL:Int) (n:Int),S.mk 59 [PL,PK,(7,ZM),PJ,(35,P.d (D.int IntKind.i64 (Sx gq+(1:Int)))),(36,P.d Z7)] (Z5C aM f c)=S.mk 59 [PL,PK,(7,ZM),PJ,(35,P.d (Zs n)),(36,P.d Z7)] (Z5C x dB dL)/\(n=rN l+(1:Int)/\lI l/\ ∀(y:ax),dB (aX y)=Option.rec ((fun(_:Unit)=>none) ()) (fun(val:Hd)=>(fun(val:Hd)=>(fun(x:Hd)=>some (bB x)) val) val) (List.find? (fun(h:Hd)=>Prod.fst h==y) l))/\Z6u l x post/\(fP l x=((11:Int),((0:Int),(0:Int)),false)-> ∀(_:Bool),Z6v post) else False)=(aH [(68,xY)] [(4,ae (aK 37 4) qbs),(10,ae (aK 37 10) qbt)] 37 [vd l,ve l,.d (aX x)] []) post:=by kernel_rfl
def hEr:bm:=fun ps R post=> ∃l x,ps=[vd l,ve l,.d (aX x)]/\R=[]/\(l.length<=1000000/\(l.map (·.1)).Nodup)/\ ∀e r ev,fP l x=(e,r,ev)->post (.da [.d (aX r),.d (.bool ev),iD e],[])
end Pi
namespace Pi
open Go Go.Proofs
set_option maxRecDepth 100000
theorem LC {α:Type} (t:α->Bool) (y:α) (r:List α):ja t (y::r)=if t y=true then 0 else if ja t r<0 then-1 else ja t r+1:=by
 unfold ja
 rw[List.findIdx?_cons]
 by_cases h:t y=true
 ·simp[h]
 ·rw[if_neg h,if_neg h]
  cases List.findIdx? t r with
  |none=>rfl
  |some i=>simp;omega
theorem Vo {α:Type} (t:α->Bool) (l:List α): -1<=ja t l:=by
 unfold ja
 split<;>omega
theorem LF {α:Type} (t:α->Bool) (l:List α):(ja t l<0->l.find? t=none)/\(0<=ja t l-> ∃h:(ja t l).toNat<l.length,l.find? t=some l[(ja t l).toNat]):=by
 unfold ja
 cases h:List.findIdx? t l with
 |none=>
  refine⟨fun _=> ?_,fun h=>by simp at h⟩
  rw[List.find?_eq_none]
  intro x hx
  have:=(List.findIdx?_eq_none_iff.1 h) x hx
  simp[this]
 |some i=>
  obtain⟨hi,ht,hb⟩:=List.findIdx?_eq_some_iff_getElem.1 h
  refine⟨fun h=>by simp at h;omega,fun _=>⟨by simpa using hi,?_⟩⟩
  rw[List.find?_eq_some_iff_getElem]
  refine⟨by simpa using ht,i,hi,by simp,fun j hj=>by simpa using hb j hj⟩
theorem ya {l:List Hd} {n:Nat} {x:ax} {e:Bool} (h:l.find? (fun h=>h.1==x)=none):nL l (n+1) x e=(111,(0,0),false):=by
 unfold nL
 rw[h]
 rfl
theorem AJ {l:List Hd} {n:Nat} {x:ax} {e:Bool} {g:Hd} (h:l.find? (fun h=>h.1==x)=some g) (hu:g.2=(0,0)):nL l (n+1) x e=(0,x,e):=by
 unfold nL
 rw[h]
 show(if g.2=(0,0) then _ else _)=_
 rw[if_pos hu]
theorem yb {l:List Hd} {n:Nat} {x:ax} {e:Bool} {g:Hd} (h:l.find? (fun h=>h.1==x)=some g) (hu:g.2≠(0,0)):nL l (n+1) x e=nL l n g.2 (!e):=by
 rw[show nL l (n+1) x e=(match(l.find? fun h=>h.1==x).map (·.2) with |none=>(111,(0,0),false)|some u=>if u=(0,0) then(0,x,e) else nL l n u (!e)) from rfl,h]
 show(if g.2=(0,0) then _ else _)=_
 rw[if_neg hu]
section
variable {X:XF}
theorem Vp:LD X 43 7 (ae (aK 43 7) qbp):=LD.par (H:=[]) (hk:=[]) (by kernel_rfl) (by kernel_rfl) .nil .nil
 (A:=List Hd×ax×Bool×Int) (B:=Nat×Int×Int) (fun a b=>rr2 a.1 a.2.1 a.2.2.1 a.2.2.2 b.2.1 b.2.2)
 (fun a b=>a.1.length<=1000000/\b.1<=a.1.length/\b.2.2=(b.1:Int)-1/\b.2.1=(if C8 (a.1.drop b.1) a.2.1<0 then-1 else C8 (a.1.drop b.1) a.2.1+b.1)) (fun _ b=>b.1)
 (fun a x=>x=(.exit 2,⟨52,[(0,ph a.1),(3,.ref 0 0 0),(4,.ref 1 0 0),(7,.d (.bool a.2.2.1)),(8,iD a.2.2.2),(9,iD (C8 a.1 a.2.1))],[(0,⟨0,none,Qp a.2.1⟩),(1,⟨0,none,.box 30 [iD 0,iD 0]⟩)]⟩))
 (by
  rintro⟨l,x,ev,n⟩ ⟨k,at',i⟩ ⟨hm,hk,hi,ha⟩
  dsimp only at*
  (rw[<-qeq];delta Z7 ZY p9 tG vK SC Zr Z6l Zs Ly zq iz pQ iM HJ bQ dG sA Za Z9 Zb Zg rA CA zo uG qI MG Z2)
  cases k with
  |zero=>
   refine nv (by omega) ?_
   have hge:=Vo (fun h:Hd=>h.1==x) l
   have:at'=C8 l x:=by
    rw[ha,List.drop_zero]
    unfold C8
    split<;>omega
   rw[this]
   rfl
  |succ k=>
   have bk:k<l.length:=by omega
   have Fx:i.toNat=k:=by omega
   have e1:D.nth (l.map bB) i.toNat=bB l[k]:=by rw[Fx];exact ay _ _ _ bk
   have hd:l.drop k=l[k]::l.drop (k+1):=List.drop_eq_getElem_cons bk
   generalize l[k]=h at e1 hd
   rw[e1,List.length_map,show(D.ah (D.ao (bB h) 0)==x.1&&(D.ah (D.ao (bB h) 1)==x.2&&true))=(h.1==x) from Ch h.1 x]
   have hc:C8 (l.drop k) x=if(h.1==x)=true then 0 else if C8 (l.drop (k+1)) x<0 then-1 else C8 (l.drop (k+1)) x+1:=by
    unfold C8
    rw[hd]
    exact LC _ _ _
   refine bV (by omega) (ak ⟨by omega,by omega⟩ (aq (qa _) (aw (fun hx=>ak (by omega) ?_) fun hx=>ak (by omega) ?_)))
   ·refine⟨k,Nat.lt_succ_self k,(k,i,i-1),rfl,⟨hm,by show k<=_;omega,by show i-1=(k:Int)-1;omega,?_⟩,rfl⟩
    show i=if C8 (l.drop k) x<0 then-1 else C8 (l.drop k) x+(k:Int)
    rw[if_pos hx] at hc
    rw[hc,if_neg (by omega)]
    omega
   ·refine⟨k,Nat.lt_succ_self k,(k,at',i-1),rfl,⟨hm,by show k<=_;omega,by show i-1=(k:Int)-1;omega,?_⟩,rfl⟩
    show at'=if C8 (l.drop k) x<0 then-1 else C8 (l.drop k) x+(k:Int)
    rw[if_neg (by rw[hx];simp)] at hc
    by_cases hz:C8 (l.drop (k+1)) x<0
    ·rw[if_pos hz] at hc ha
     rw[hc,ha,if_pos (by omega)]
    ·rw[if_neg hz] at hc ha
     rw[hc,ha,if_neg (by omega)]
     omega)
 (by
  rintro s post ⟨l,x,ev,n,a,i,rfl,⟨ha,hi,hm⟩,hp⟩
  refine⟨(l,x,ev,n),(l.length,a,i),rfl,⟨hm,Nat.le_refl _,hi,?_⟩,?_⟩
  ·show a=if C8 (l.drop l.length) x<0 then _ else _
   rw[List.drop_length,ha]
   rfl
  ·rintro y rfl
   exact hp _ rfl)
theorem Vq:LD X 43 3 (ae (aK 43 3) qbr):=LD.idx (H:=[]) (hk:=[(7,ae (aK 43 7) qbp)]) (by kernel_rfl) (by kernel_rfl) .nil (.cons Vp .nil)
 (A:=List Hd×ax) (B:=ax×Bool) (fun a b n=>rr1 a.1 b.1 b.2 n) (fun a=>a.1.length+1) (fun a n b=>a.1.length<=1000000/\n<=a.1.length+1/\fP a.1 a.2=nL a.1 (a.1.length+1-n) b.1 b.2)
 (fun a y=>(∃e r ev,fP a.1 a.2=(e,r,ev)/\y=(.ret,⟨52,[(4,.ref 0 0 0),(5,.d (.bool ev)),(6,iD e)],[(0,⟨0,none,Qp r⟩)]⟩))\/(fP a.1 a.2=(11,(0,0),false)/\y=(.exit 0,⟨52,[(4,.ref 0 0 0)],[(0,⟨0,none,.box 30 [iD 0,iD 0]⟩)]⟩)))
 (by
  rintro⟨l,x0⟩ ⟨x,ev⟩ n post h0 oD Fw ⟨hm,hn1,hr⟩ hn ho
  dsimp only at*
  (rw[<-XS];delta Z7 ZY p9 Zm rC Za Z9 Zj tG vK EW CD iz Zg rA uG qI MG pj LB Z3 bQ jR K4 eU lI rN Zs Ly SC I0 zq pQ iM HJ dG sA)
  have hfu:l.length+1-n.toNat=(l.length-n.toNat)+1:=by omega
  rw[hfu] at hr
  rw[List.length_map]
  obtain⟨hf1,hf2⟩:=LF (fun h:Hd=>h.1==x) l
  refine bV (by omega) (ak (by omega) ⟨l,x,ev,n,_,_,rfl,⟨rfl,rfl,hm⟩,fun b hb=> ?_⟩)
  rw[List.length_map]
  refine bJ (fun qer=>ho _ (fun h=>by cases h) (.inl ⟨111,(0,0),false,?_,rfl⟩)) fun Un=> ?_
  ·rw[hr,ya (hf1 (by rw[hb] at qer;exact qer))]
  ·obtain⟨bk,hf⟩:=hf2 (by rw[hb] at Un;unfold C8 at Un;omega)
   have hbn:b.toNat=(ja (fun h:Hd=>h.1==x) l).toNat:=by rw[hb];rfl
   rw[<-hbn] at bk
   simp only[<-hbn] at hf
   have e1:D.nth (l.map bB) b.toNat=bB l[b.toNat]:=ay _ _ _ bk
   generalize l[b.toNat]=g at hf e1
   rw[e1,show(D.ah (D.ao (bB g) 2)==0&&(D.ah (D.ao (bB g) 3)==0&&true))=(g.2==(0,0)) from Ch g.2 (0,0)]
   refine ak ⟨by omega,by omega⟩ (aq (qa _) (aw (fun hu=>ho _ (fun h=>by cases h) (.inl ⟨0,x,ev,?_,rfl⟩)) fun hu=>ak ⟨by omega,by omega⟩ (aq (qa _) (ak (by omega) (hn (g.2,!ev) ⟨hm,by omega,?_⟩)))))
   ·rw[hr,AJ hf (by simpa using hu)]
   ·rw[hr,yb hf (by simpa using hu)]
    congr 1
    omega)
 (by
  rintro⟨l,x0⟩ ⟨x,ev⟩ n post oD ⟨hm,hn1,hr⟩ ho
  dsimp only at*
  (rw[<-XS];delta Z7 ZY p9 Zm rC Za Z9 Zj tG vK EW CD iz Zg rA uG qI MG pj LB Z3 bQ jR K4 eU lI rN Zs Ly SC I0 zq pQ iM HJ dG sA;rw[List.length_map])
  refine nv (by omega) (ho _ (fun h=>by cases h) (.inr ⟨?_,rfl⟩))
  rw[hr,Nat.sub_self]
  rfl)
 (by
  rintro s post ⟨l,x,rfl,hm,h1,h2⟩
  refine⟨(l,x),(x,true),rfl,⟨hm,by omega,rfl⟩,?_⟩
  rintro y (⟨e,r,ev,h3,rfl⟩| ⟨h3,rfl⟩)
  ·exact h1 e r ev h3
  ·exact h2 h3)
theorem qgx:FD X 43 hRr:=FD.mk (H:=[]) (hk:=[(3,ae (aK 43 3) qbr)]) (by kernel_rfl) .nil (.cons Vq .nil) (by
 intro ps R post hh
 obtain⟨l,x,rfl,rfl,hm,hp⟩:=hh
 (rw[<-qgv];delta Z3 Z7 Z6v Zs Zu iz mr Z6u eU lI ZY p9 tG vK SC MI ZM iM HJ bQ dG sA Z6t)
 exact⟨l,x,rfl,hm,fun e r ev h=>hp e r ev h,fun h=>hp _ _ _ h⟩)
end
theorem Vr {a b:ax} (h:aX a=aX b):a=b:=by
 obtain⟨a1,a2⟩:=a
 obtain⟨b1,b2⟩:=b
 unfold aX at h
 injection h with h
 injection h with h1 h2
 injection h2 with h2 h3
 injection h1 with _ h1
 injection h2 with _ h2
 simp at h1 h2
 rw[h1,h2]
theorem Qs (a b:ax):D.nD (aX a) (aX b)=(a==b):=by
 rw[Bool.eq_iff_iff,D.gA,beq_iff_eq]
 exact⟨Vr,fun h=>by rw[h]⟩
section
variable {X:XF}
theorem Vs:LD X 37 4 (ae (aK 37 4) qbs):=LD.idx (H:=[]) (hk:=[]) (by kernel_rfl) (by kernel_rfl) .nil .nil
 (A:=List Hd×List Hd×ax) (B:=(D->Option D)×Int) (fun a b i=>er1 a.1 a.2.1 a.2.2 b.1 b.2 i) (fun a=>a.2.1.length) (fun a i b=>(a.2.1.length<=1000000/\(a.2.1.map (·.1)).Nodup)/\ ∀y:ax,b.1 (aX y)=((a.2.1.take i).find? (fun h=>h.1==y)).map bB)
 (fun a y=> ∃f c,(∀z:ax,f (aX z)=(a.2.1.find? (fun h=>h.1==z)).map bB)/\y=(.exit 0,⟨59,[(0,vd a.1),(1,ve a.1),(5,.ref 0 0 0),(6,.ref 1 0 0),(10,.mp 2 0)],[(0,⟨0,none,Qp a.2.2⟩),(1,⟨0,none,.box 30 [iD 0,iD 0]⟩),(2,⟨0,none,XB f c⟩)]⟩))
 (by
  rintro⟨l,m,x⟩ ⟨f,c⟩ i post h0 bS bc ⟨⟨hm,lx⟩,hf⟩ hn ho
  dsimp only at*
  (rw[<-PN];delta zm Z7 ZY p9 tG vK Z5C PH Zg rA CA zo Va Z5z Zm eU rN PJ iM PK bQ PL pP Jp ny Jq Za Z9 Zj qI CB CC MF)
  have e1:D.nth (m.map bB) i.toNat=bB m[i.toNat]:=ay _ _ _ bc
  have vM:m.take (i.toNat+1)=m.take i.toNat++[m[i.toNat]]:=List.take_succ_eq_append_getElem bc
  have hnk: ∀z∈m.take i.toNat,z.1≠m[i.toNat].1:=by
   intro z hz he
   have:(m.take (i.toNat+1)).map (·.1)|>.Nodup:=(lx.sublist ((List.take_sublist _ _).map _))
   rw[vM,List.map_append,List.nodup_append] at this
   exact this.2.2 z.1 (List.mem_map_of_mem hz) _ (by simp) he
  rw[e1]
  generalize m[i.toNat]=g at vM hnk
  have t1:D.agg [D.int .i64 (D.ah (D.ao (bB g) 0)),D.int .i64 (D.ah (D.ao (bB g) 1))]=aX g.1:=rfl
  have t2:D.agg [D.int .i64 (D.ah (D.ao (bB g) 0)),D.int .i64 (D.ah (D.ao (bB g) 1)),D.int .i64 (D.ah (D.ao (bB g) 2)),D.int .i64 (D.ah (D.ao (bB g) 3))]=bB g:=rfl
  refine bV bS (ak ⟨h0,bS⟩ (ak (by simpa using bc) (aq (Ve _) (ak (by omega) ?_))))
  refine hn (_,_) ⟨⟨hm,lx⟩,fun y=> ?_⟩
  show(bif D.nD (aX g.1) (aX y) then some (bB g) else f (aX y))=_
  rw[Qs,hf y,vM,List.find?_append]
  by_cases hy:g.1=y
  ·subst hy
   rw[show(g.1==g.1)=true by simp,cond_true]
   rw[show(m.take i.toNat).find? (fun h=>h.1==g.1)=none from by
    rw[List.find?_eq_none]
    intro z hz
    simpa using hnk z hz]
   simp
  ·rw[show(g.1==y)=false by simpa using hy,cond_false]
   simp[hy])
 (by
  rintro⟨l,m,x⟩ ⟨f,c⟩ i post hi ⟨⟨hm,lx⟩,hf⟩ ho
  dsimp only at*
  (rw[<-PN];delta zm Z7 ZY p9 tG vK Z5C PH Zg rA CA zo Va Z5z Zm eU rN PJ iM PK bQ PL pP Jp ny Jq Za Z9 Zj qI CB CC MF)
  refine nv (by omega) (ho _ (fun h=>by cases h) ⟨f,c,?_,rfl⟩)
  rw[List.take_length] at hf
  exact hf)
 (by
  rintro s post ⟨l,m,x,rfl,h1,hp⟩
  refine⟨(l,m,x),(fun _=>none,0),rfl,⟨h1,fun y=>rfl⟩,?_⟩
  rintro y ⟨f,c,h3,rfl⟩
  exact hp f c h3)
theorem Vt:LD X 37 10 (ae (aK 37 10) qbt):=LD.idx (H:=[]) (hk:=[]) (by kernel_rfl) (by kernel_rfl) .nil .nil
 (A:=List Hd×ax×(D->Option D)×Int×Int) (B:=ax×Bool) (fun a b i=>er2 b.1 b.2 a.2.2.1 a.2.2.2.1 a.2.2.2.2 i) (fun a=>a.1.length+1)
 (fun a n b=>(a.2.2.2.2=(a.1.length:Int)+1/\a.1.length<=1000000/\ ∀y:ax,a.2.2.1 (aX y)=(a.1.find? (fun h=>h.1==y)).map bB)/\n<=a.1.length+1/\fP a.1 a.2.1=nL a.1 (a.1.length+1-n) b.1 b.2)
 (fun a y=>(∃e r ev,fP a.1 a.2.1=(e,r,ev)/\y=(.ret,⟨59,[(6,.ref 0 0 0),(7,.d (.bool ev)),(8,iD e)],[(0,⟨0,none,Qp r⟩)]⟩))\/(fP a.1 a.2.1=(11,(0,0),false)/\ ∃ev:Bool,y=(.exit 2,⟨59,[(6,.ref 0 0 0),(7,.d (.bool ev))],[(0,⟨0,none,.box 30 [iD 0,iD 0]⟩)]⟩)))
 (by
  rintro⟨l,x0,f,c,N⟩ ⟨x,ev⟩ n post h0 oD Fw ⟨⟨hN,hm,hf⟩,hn1,hr⟩ hn ho
  dsimp only at*
  (rw[<-Qq];delta zm Z7 ZY p9 Zm Zs PJ iM PK bQ PL Za Z9 Zj tG vK EW MI iz pQ pj LB Z3 Vn mr ZG)
  have hfu:l.length+1-n.toNat=(l.length-n.toNat)+1:=by omega
  rw[hfu] at hr
  rw[show f (D.agg [D.int .i64 x.1,D.int .i64 x.2])=(l.find? (fun h=>h.1==x)).map bB from hf x]
  refine bV (by omega) ?_
  cases hg:l.find? (fun h=>h.1==x) with
  |none=>
   have z0:cm ((none:Option Hd).map bB) (D.agg [D.int .i64 0,D.int .i64 0,D.int .i64 0,D.int .i64 0])=bB GQ:=rfl
   rw[z0]
   refine aq (Ve _) (aw (fun _=>ho _ (fun h=>by cases h) (.inl ⟨111,(0,0),false,?_,rfl⟩)) fun h=>by simp at h)
   rw[hr,ya hg]
  |some g=>
   have z0:cm ((some g).map bB) (D.agg [D.int .i64 0,D.int .i64 0,D.int .i64 0,D.int .i64 0])=bB g:=rfl
   rw[z0,show(D.ah (D.ao (bB g) 2)==0&&(D.ah (D.ao (bB g) 3)==0&&true))=(g.2==(0,0)) from Ch g.2 (0,0)]
   refine aq (Ve _) (aw (fun h=>by simp at h) fun _=>aw (fun hu=>ho _ (fun h=>by cases h) (.inl ⟨0,x,ev,?_,rfl⟩)) fun hu=>ak (by omega) (hn (g.2,!ev) ⟨⟨hN,hm,hf⟩,by omega,?_⟩))
   ·rw[hr,AJ hg (by simpa using hu)]
   ·rw[hr,yb hg (by simpa using hu)]
    congr 1
    omega)
 (by
  rintro⟨l,x0,f,c,N⟩ ⟨x,ev⟩ n post oD ⟨⟨hN,hm,hf⟩,hn1,hr⟩ ho
  dsimp only at*
  (rw[<-Qq];delta zm Z7 ZY p9 Zm Zs PJ iM PK bQ PL Za Z9 Zj tG vK EW MI iz pQ pj LB Z3 Vn mr ZG)
  refine nv (by omega) (ho _ (fun h=>by cases h) (.inr ⟨?_,ev,rfl⟩))
  rw[hr,Nat.sub_self]
  rfl)
 (by
  rintro s post ⟨l,x,f,c,n,rfl,h1,h2,h3⟩
  refine⟨(l,x,f,c,n),(x,true),rfl,⟨h1,by omega,rfl⟩,?_⟩
  rintro y (⟨e,r,ev,h4,rfl⟩| ⟨h4,ev,rfl⟩)
  ·exact h2 e r ev h4
  ·exact h3 h4 ev)
theorem qgy:FD X 37 hEr:=FD.mk (H:=[(68,xY)]) (hk:=[(4,ae (aK 37 4) qbs),(10,ae (aK 37 10) qbt)]) (by kernel_rfl) (.cons Jt .nil) (.cons Vs (.cons Vt .nil)) (by
 intro ps R post hh
 obtain⟨l,x,rfl,rfl,⟨hm,lx⟩,hp⟩:=hh
 (rw[<-qgw];delta Z3 Z7 Z6v Zs Zu iz mr Z6u eU rN zm ZY p9 tG vK Z5C PJ ZM iM PK bQ PL Za pP ny Sx Z9 lI Qr PH Lp Jp Jq Z6x Zw XQ)
 have EU:(u4 l).Perm l:=by
  unfold u4
  rw[UW lx]
  exact cW _
 simp only[List.length_map]
 refine⟨l,rfl,rfl,hm,fun m Sm=>⟨l,m,x,rfl,⟨by rw[Sm,EU.length_eq];exact hm,by rw[Sm];exact(EU.map (·.1)).nodup_iff.2 lx⟩,fun f c hf=>ak (by omega) ⟨l,x,f,c,_,rfl,⟨by omega,hm,fun y=> ?_⟩,fun e r ev h=>hp e r ev h,fun h ev=>hp _ _ _ h⟩⟩⟩
 rw[hf y,Sm,Ln lx EU y]
 cases l.find? (fun h:Hd=>h.1==y)<;>rfl)
end
end Pi
namespace Pi
open Go Go.Proofs
set_option maxRecDepth 100000
set_option maxHeartbeats 0
abbrev LG (z:Bool) (v:List Int):Obj:= .arr 3 z (bx v)
abbrev hvH (m:List aj) (v:List Int) (i:Int):S:=⟨33,[(3,.sl 0 0 16),(8,.sl 1 0 m.length),(9,iD (m.length:Int)),(10,iD i)],[(0,⟨0,none,LG false v⟩),(1,⟨0,none,my false m⟩)]⟩
def rD (m:List aj):Nat×En:=(1,kJ m)
def AK (m:List aj):P:=P.d (D.int IntKind.i64 (↑(dm m):Int))
def lN (m:List aj):P:=P.sl 1 0 (dm m)
def Z6A:Nat×P:=(3,P.sl 0 0 16)
def EX (m:List aj) (i:Int):Int:=D.ah (D.ao (fQ m i) 1)-(1:Int)
theorem XU (m:List aj) (v:List Int) (i:Int) (post:PX×S->Prop):(bif vI i m then bif jq i m then bif gS i m then bif c8 m i then bif decide (Z9<=EX m i/\EX m i<=Za) then bif decide (Z9<=EX m i/\EX m i<=Za) then bif decide ((0:Int)<=EX m i/\EX m i<(16:Int)) then bif decide (Int.toNat (EX m i)<List.length (bx v)) then bif cX PR (3:TypeId) (D.nth (bx v) (Int.toNat (EX m i))) then bif decide ((0:Int)<=EX m i/\EX m i<(16:Int)) then bif decide (Int.toNat (EX m i)<List.length (bx v)) then bif cX PR (3:TypeId) (D.nth (bx v) (Int.toNat (EX m i))) then bif Zj i then post (PX.normal,S.mk 33 [Z6A,(8,lN m),(9,AK m),(10,P.d (Zm i))] [(0,En.mk 0 none (Obj.arr (3:TypeId) false (List.set (bx v) (Int.toNat (EX m i)) (D.aY (D.int IntKind.i64 (D.ah (D.nth (bx v) (Int.toNat (EX m i))))) [D.int IntKind.i64 (max (D.ah (D.nth (bx v) (Int.toNat (EX m i)))) (D.ah (D.ao (fQ m i) 2)))])))),rD m]) else False else False else False else False else False else False else False else False else False else False else False else False else post (PX.exit 0,S.mk 33 [Z6A] (ZB v)))=(aF [] [] 27 3 (hvH m v i)) post:=by kernel_rfl
def fF (m:List aj):Prop:=m.length<=1000000/\ ∀g∈m,1<=g.s.2/\g.s.2<=16/\1<=g.s.1/\g.s.1<=1099511627776/\1<=g.n/\g.n<=1099511627776
def gHv:S->K (PX×S):=fun st post=> ∃m,st=hvH m (List.replicate 16 0) 0/\fF m/\ ∀v,v=rr m->post (.exit 0,⟨33,[(3,.sl 0 0 16)],[(0,⟨0,none,LG false v⟩)]⟩)
def CJ:bm:=fun ps R post=> ∃v,ps=[vD v]/\R=[]/\v.length<=1000000/\ ∀w,w=bX v->post (vD w,[])
def Z6F (m:List aj):S:=S.mk 33 [Z6A,(8,lN m),(9,AK m),(10,P.d Z7)] [(0,En.mk 0 none (Obj.arr (3:TypeId) false (Z7::Z7::Z7::Z7::Z7::Z7::Z7::Z7::Z7::Z7::Z7::Z7::Vn))),rD m]
def qb (l:List aj) (ar:List aj):Prop:=[fR l]=[fR ar]
theorem qgz (l:List aj) (post:P×List (Nat×En)->Prop):(∃(ar:List aj),qb l ar/\Zw/\jc ar/\ ∀(m:List aj),m=az ar-> ∃(bL:List aj),Z6F m=Z6F bL/\fF bL/\ ∀(v:List Int),v=rr bL-> ∃(cV:List Int),[P.d (D.sl 1 (List.take 16 (bx v)))]=ZU cV/\Zw/\zk cV/\ ∀(w:List Int),w=bX cV->post (Zk w,[]))=(aH [(30,ma),(45,CJ)] [(3,ae (aK 27 3) gHv)] 27 [bO l] []) post:=by kernel_rfl
def hHv:bm:=fun ps R post=> ∃l,ps=[bO l]/\R=[]/\jc l/\ ∀v,v=iA (az l)->post (vD v,[])
abbrev hnH (r:Int) (v:List Int) (m:List aj) (t i:Int):S:=⟨50,[(1,iD r),(4,.ref 0 0 0),(6,iD t),(7,vD v),(21,.sl 3 0 m.length),(22,iD (m.length:Int)),(23,iD i)],[(0,⟨0,none,.box 34 [iD 0,iD 0,iD 0,.sl 1 0 0,iD 0,iD 0,.sl 2 0 0]⟩),(1,⟨0,none,LG false []⟩),(2,⟨0,none,.arr 54 false []⟩),(3,⟨0,none,my false m⟩)]⟩
def XV:Nat×En:=(2,En.mk 0 none (Obj.arr (54:TypeId) false []))
def XW:Nat×En:=(0,En.mk 0 none (Obj.box (34:TypeId) [P.d Z7,P.d Z7,P.d Z7,yy,P.d Z7,P.d Z7,P.sl 2 0 0]))
def Z6J:List (Nat×En):=[XW,(1,ZR),XV]
def SD (m:List aj):List (Nat×En):=[XW,(1,ZR),XV,(3,kJ m)]
theorem XX (r:Int) (v:List Int) (m:List aj) (t i:Int) (post:PX×S->Prop):(bif vI i m then bif jq i m then bif gS i m then bif c8 m i then bif Zj i then post (PX.normal,S.mk 50 [ZD r,jR,(6,P.d (D.int IntKind.i64 (max t (D.ah (D.ao (fQ m i) 0))))),(7,Zk v),(21,P.sl 3 0 (dm m)),(22,AK m),(23,P.d (Zm i))] (SD m)) else False else False else False else False else post (PX.exit 0,S.mk 50 [ZD r,jR,ZI t,(7,Zk v)] Z6J))=(aF [] [] 12 5 (hnH r v m t i)) post:=by kernel_rfl
def gHn:S->K (PX×S):=fun st post=> ∃r v m,st=hnH r v m 0 0/\fF m/\ ∀t,t=zl m->post (.exit 0,⟨50,[(1,iD r),(4,.ref 0 0 0),(6,iD t),(7,vD v)],[(0,⟨0,none,.box 34 [iD 0,iD 0,iD 0,.sl 1 0 0,iD 0,iD 0,.sl 2 0 0]⟩),(1,⟨0,none,LG false []⟩),(2,⟨0,none,.arr 54 false []⟩)]⟩)
def Z6K:List D:=[Z7,Z7,D.sl 18 []]
def Z6P (t:Int) (post:P×List (Nat×En)->Prop) (cA:Int) (n:Int) (cV:List Int):Prop:=bif Zj t then post (P.da (P.d (D.agg (Zm t::Zs cA::Zm n::D.sl 1 (bx cV)::Z6K))::ZY),[]) else False
def Z6L:P:=P.d (D.agg (Z7::Z7::Z7::D.sl 1 []::Z6K))
def Z6O (post:P×List (Nat×En)->Prop):Prop:=post (P.da [Z6L,P.d (D.int IntKind.i64 (2:Int))],[])
def Z6N (r:Int) (v:List Int) (m:List aj):S:=S.mk 50 [ZD r,jR,(6,P.d Z7),(7,Zk v),(21,P.sl 3 0 (dm m)),(22,AK m),(23,P.d Z7)] (SD m)
def Z6M (post:P×List (Nat×En)->Prop):Prop:=post (P.da (Z6L::ZV),[])
theorem qgA (l:List aj) (r:Int) (post:P×List (Nat×En)->Prop):(bif Z6 r then Z6M post else bif ZW r then Z6M post else∃(ar:List aj),qb l ar/\Zw/\jc ar/\ ∀(v:List Int),v=iA (az ar)-> ∃(gq:List aj),qb l gq/\Zw/\jc gq/\ ∀(m:List aj),m=az gq-> ∃(cA:Int) (cV:List Int) (bL:List aj),Z6N r v m=Z6N cA cV bL/\fF bL/\ ∀(t:Int),t=zl bL-> ∃(v:List Int) (r:Int),Zv cV cA v r/\Zw/\zk v/\ ∀(n:Int),n=uW v r->bif Zj n then bif Zj t then bif decide (max (t+(1:Int)) (n+(1:Int))>Z1) then Z6O post else Z6P t post cA n cV else False else False)=(aH [(30,ma),(27,hHv),(31,tD)] [(5,ae (aK 12 5) gHn)] 12 [bO l,iD r] []) post:=by kernel_rfl
def XY:bm:=fun ps R post=> ∃l r,ps=[bO l,iD r]/\R=[]/\jc l/\ ∀g e,g=kI (az l) r->e=qF (az l) r->post (.da [.d (aP g),iD e],[])
abbrev qes (m:List aj) (v:List Int) (i:Int):S:=⟨41,[(0,.sl 0 0 m.length),(3,vD v),(4,iD i)],[(0,⟨0,none,my false m⟩)]⟩
def CK:bm:=fun ps R post=> ∃v r n,ps=[vD v,iD r,iD n]/\R=[]/\(v.length<=1000000/\1<=r/\r<=16)/\ ∀w,w=bX (oT v r n)->post (.da [vD w,iD 0],[])
theorem Qt (m:List aj) (v:List Int) (i:Int) (post:PX×S->Prop):(bif vI i m then bif jq i m then bif gS i m then bif c8 m i then bif jq i m then bif gS i m then bif c8 m i then∃(cV:List Int) (r:Int),[Zk v,P.d (lG m i)]=Zk cV::Zu r/\Zw/\zk cV/\ ∀(n:Int),n=uW cV r->bif jq i m then bif gS i m then bif c8 m i then∃(B0:List Int) (r:Int) (cj:Int),[Zk v,P.d (lG m i),P.d (D.int IntKind.i64 (max (D.ah (D.ao (fQ m i) 2)) n))]=Zk B0::P.d (Zs r)::Zu cj/\Zw/\(zk B0/\(1:Int)<=r/\r<=(16:Int))/\ ∀(w:List Int),w=bX (oT B0 r cj)->bif Zj i then post (PX.normal,S.mk 41 (kR m::(3,Zk w)::AF i) (xS m)) else False else False else False else False else False else False else False else False else False else False else post (PX.exit 0,S.mk 41 [(3,Zk v)] []))=(aF [(13,tD),(46,CK)] [] 28 4 (qes m v i)) post:=by kernel_rfl
abbrev qbu (m:List aj):S:=⟨41,[(0,.sl 0 0 m.length),(3,.sl 1 0 0),(4,iD 0)],[(0,⟨0,none,my false m⟩),(1,⟨0,none,LG false []⟩)]⟩
def Z6T (m:List aj):P:=P.d (D.int IntKind.i64 (D.ah (D.ao (D.nth (cK m) 0) 1)))
def XZ:P:=P.d (D.sl 1 [])
def Z6R (m:List aj):Bool:=decide (0<gO m)
def Z6Q (m:List aj):Bool:=decide ((0:Int)<=(0:Int)/\(0:Int)<(↑(dm m):Int))
theorem Qu (m:List aj) (post:PX×S->Prop):(bif decide ((0:Int)<(↑(dm m):Int)) then bif Z6Q m then bif Z6R m then bif cX PR (34:TypeId) (D.nth (cK m) 0) then bif Z6Q m then bif Z6R m then bif cX PR (34:TypeId) (D.nth (cK m) 0) then∃(v:List Int) (r:Int),[XZ,Z6T m]=Zk v::Zu r/\Zw/\zk v/\ ∀(n:Int),n=uW v r->bif Z6Q m then bif Z6R m then bif cX PR (34:TypeId) (D.nth (cK m) 0) then∃(v:List Int) (r:Int) (cj:Int),[XZ,Z6T m,P.d (D.int IntKind.i64 (max (D.ah (D.ao (D.nth (cK m) 0) 2)) n))]=Zk v::P.d (Zs r)::Zu cj/\Zw/\(zk v/\(1:Int)<=r/\r<=(16:Int))/\ ∀(w:List Int),w=bX (oT v r cj)->post (PX.normal,S.mk 41 [kR m,(3,Zk w),(4,P.d ZP)] (xS m)) else False else False else False else False else False else False else False else False else False else post (PX.exit 0,S.mk 41 [(3,ZO)] ZS))=(aF [(13,tD),(46,CK)] [] 28 4 (qbu m)) post:=by kernel_rfl
def qbv:S->K (PX×S):=fun st post=> ∃m,st=qbu m/\fF m/\(∀v,v=iA m->post (.exit 0,⟨41,[(3,vD v)],[]⟩))/\(iA m=[]->post (.exit 0,⟨41,[(3,.sl 0 0 0)],[(0,⟨0,none,LG false []⟩)]⟩))
def Z6U (m:List aj):S:=S.mk 41 (kR m::(3,yy)::UR) [u5 m,(1,ZR)]
theorem qet (l:List aj) (post:P×List (Nat×En)->Prop):(∃(ar:List aj),qb l ar/\Zw/\jc ar/\ ∀(m:List aj),m=az ar-> ∃(bL:List aj),Z6U m=Z6U bL/\fF bL/\(∀(v:List Int),v=iA bL->post (Zk v,[]))/\(iA bL=[]->post (ZO,ZS)))=(aH [(40,ma)] [(4,ae (aK 28 4) qbv)] 28 [bO l] []) post:=by kernel_rfl
def Qv:bm:=fun ps R post=> ∃l,ps=[bO l]/\R=[]/\jc l/\(∀v,v=iA (az l)->post (vD v,[]))/\(iA (az l)=[]->post (.sl 0 0 0,[(0,⟨0,none,LG false []⟩)]))
end Pi
namespace Pi
open Go Go.Proofs
set_option maxRecDepth 100000
theorem LH {g:aj} (h:cQ g=true):1<=g.s.2/\g.s.2<=16/\1<=g.s.1/\g.s.1<=1099511627776/\1<=g.n/\g.n<=1099511627776:=by
 unfold cQ Xw at h
 simp only[Bool.and_eq_true,BZ,decide_eq_true_eq] at h
 omega
theorem mf {l:List aj} (h:l.length<=1000000):fF (az l):=by
 have:=cv l
 exact⟨by omega,fun g hg=>LH (rq g hg)⟩
theorem fF.sub {m k:List aj} (h:fF m) (hs: ∀g∈k,g∈m) (hl:k.length<=1000000):fF k:=⟨hl,fun g hg=>h.2 g (hs g hg)⟩
theorem Vu (v:List Int) (i:Nat) (h:i<v.length):D.nth (bx v) i= .int .i64 (v.getD i 0):=by
 rw[bx,ay _ _ _ h,dK h]
theorem Vv (v:List Int) (i:Nat) (n:Int):(bx v).set i (.int .i64 n)=bx (v.set i n):=by simp[bx,List.map_set]
section
variable {X:XF}
theorem Qw:FD X 45 CJ:=IW.weaken fun ps R post h=>by
 obtain⟨v,rfl,rfl,hs,hp⟩:=h
 exact⟨v,rfl,rfl,hs,hp _ rfl⟩
theorem Vw:FD X 46 CK:=Ud.weaken fun ps R post h=>by
 obtain⟨v,r,n,rfl,rfl,⟨hs,h1,h2⟩,hp⟩:=h
 exact⟨v,r,n,rfl,rfl,hs,fun h=>absurd ⟨h1,h2⟩ h,fun _=>hp _ rfl⟩
theorem qbw:LD X 27 3 (ae (aK 27 3) gHv):=LD.idx (H:=[]) (hk:=[]) (by kernel_rfl) (by kernel_rfl) .nil .nil
 (A:=List aj) (B:=List Int) (fun m v i=>hvH m v i) (fun m=>m.length) (fun m i v=>fF m/\v=rr (m.take i))
 (fun m x=>x=(.exit 0,⟨33,[(3,.sl 0 0 16)],[(0,⟨0,none,LG false (rr m)⟩)]⟩))
 (by
  rintro m v i post h0 bS bc ⟨hr,hv⟩ hn ho
  (rw[<-XU];delta ZB cK kJ rD Zg fQ Zm dm AK lN Z6A Za Z9 Zj EX c8 gO gS jq vI)
  have e1:D.nth (m.map aP) i.toNat=aP m[i.toNat]:=ay _ _ _ bc
  have hg:=hr.2 _ (List.getElem_mem bc)
  have Kh:=hr.1
  have gU:=fun(h1:1<=(m[i.toNat]'bc).s.2) (h2:(m[i.toNat]'bc).s.2<=16)=>Pu (l:=m.take i.toNat) (g:=m[i.toNat]'bc) h1 h2
  rw[<-List.take_succ_eq_append_getElem bc,<-hv] at gU
  rw[e1]
  generalize m[i.toNat]=g at hg gU
  have Sf:v.length=16:=by rw[hv,kH]
  have c1:D.ah (D.ao (aP g) 1)=g.s.2:=rfl
  have c2:D.ah (D.ao (aP g) 2)=g.n:=rfl
  rw[c1,c2,Vu v _ (by omega)]
  have w1: ∀a b:Int,D.aY (D.int .i64 a) [D.int .i64 b]= .int .i64 b:=fun _ _=>rfl
  have v1: ∀a:Int,D.ah (.int .i64 a)=a:=fun _=>rfl
  rw[v1,w1,Vv,gU hg.1 hg.2.1]
  have jk:(-9223372036854775808:Int)<=g.s.2-1/\g.s.2-1<=9223372036854775807:=by omega
  have cu:(0:Int)<=g.s.2-1/\g.s.2-1<((16:Nat):Int):=by omega
  have iL:(g.s.2-1).toNat<(bx v).length:=by simp[bx];omega
  refine bV bS (ak ⟨h0,bS⟩ (ak (by simpa using bc) (aq (df _) (ak jk (ak jk (ak cu (ak iL (aq (zn _) (ak cu (ak iL (aq (zn _) (ak (by omega) (hn _ ⟨hr,rfl⟩))))))))))))))
 (by
  rintro m v i post hi ⟨hr,hv⟩ ho
  (rw[<-XU];delta ZB cK kJ rD Zg fQ Zm dm AK lN Z6A Za Z9 Zj EX c8 gO gS jq vI)
  refine nv (by omega) (ho _ (fun h=>by cases h) ?_)
  rw[hv,List.take_length])
 (by
  rintro s post ⟨m,rfl,hs,hp⟩
  refine⟨m,_,rfl,⟨hs,Pv.symm⟩,?_⟩
  rintro x rfl
  exact hp _ rfl)
theorem qeu:FD X 27 hHv:=FD.mk (H:=[(30,ma),(45,CJ)]) (hk:=[(3,ae (aK 27 3) gHv)]) (by kernel_rfl) (.cons Jn (.cons Qw .nil)) (.cons qbw .nil) (by
 intro ps R post hh
 obtain⟨l,rfl,rfl,hs,hp⟩:=hh
 (rw[<-qgz];delta Zk zk ZU cK kJ rD Z7 Vn dm AK lN Z6A Z6F Zw fR qb)
 refine⟨l,rfl,rfl,hs,fun m hm=>⟨m,rfl,by rw[hm];exact mf hs.1,fun v hv=>⟨v,?_,rfl,?_,fun w hw=>hp w ?_⟩⟩⟩
 ·have e:List.take 16 (bx v)=bx v:=List.take_of_length_le (by simp[bx,hv,kH])
  rw[e]
 ·rw[hv,kH];omega
 ·rw[hw,hv,hm];rfl)
theorem EY {m:List aj} {i:Nat} (h:i<m.length):zl (m.take (i+1))=max (zl (m.take i)) m[i].s.1:=by rw[List.take_succ_eq_append_getElem h,Px]
theorem qbx:LD X 12 5 (ae (aK 12 5) gHn):=LD.idx (H:=[]) (hk:=[]) (by kernel_rfl) (by kernel_rfl) .nil .nil
 (A:=Int×List Int×List aj) (B:=Int) (fun a t i=>hnH a.1 a.2.1 a.2.2 t i) (fun a=>a.2.2.length) (fun a i t=>fF a.2.2/\t=zl (a.2.2.take i))
 (fun a x=>x=(.exit 0,⟨50,[(1,iD a.1),(4,.ref 0 0 0),(6,iD (zl a.2.2)),(7,vD a.2.1)],[(0,⟨0,none,.box 34 [iD 0,iD 0,iD 0,.sl 1 0 0,iD 0,iD 0,.sl 2 0 0]⟩),(1,⟨0,none,LG false []⟩),(2,⟨0,none,.arr 54 false []⟩)]⟩))
 (by
  rintro⟨r,v,m⟩ t i post h0 bS bc ⟨hr,ht⟩ hn ho
  try dsimp only at*
  (rw[<-XX];delta XV ZR yy Z7 XW Z6J Zs ZI cK kJ SD Zm dm AK Zk Zg fQ bQ jR ZD Za Z9 Zj c8 gO gS jq vI)
  have e1:D.nth (m.map aP) i.toNat=aP m[i.toNat]:=ay _ _ _ bc
  have Kh:=hr.1
  have wh:=EY bc
  rw[e1]
  generalize m[i.toNat]=g at wh
  refine bV bS (ak ⟨h0,bS⟩ (ak (by simpa using bc) (aq (df _) (ak (by omega) (hn _ ⟨hr,?_⟩)))))
  rw[wh,<-ht]
  rfl)
 (by
  rintro⟨r,v,m⟩ t i post hi ⟨hr,ht⟩ ho
  try dsimp only at*
  (rw[<-XX];delta XV ZR yy Z7 XW Z6J Zs ZI cK kJ SD Zm dm AK Zk Zg fQ bQ jR ZD Za Z9 Zj c8 gO gS jq vI)
  refine nv (by omega) (ho _ (fun h=>by cases h) ?_)
  rw[ht,List.take_length]
  rfl)
 (by
  rintro s post ⟨r,v,m,rfl,hs,hp⟩
  refine⟨(r,v,m),0,rfl,⟨hs,rfl⟩,?_⟩
  rintro x rfl
  exact hp _ rfl)
theorem Vx:LD X 28 4 (ae (aK 28 4) qbv):=LD.idx (H:=[(13,tD),(46,CK)]) (hk:=[]) (by kernel_rfl) (by kernel_rfl) (.cons Hw (.cons Vw .nil)) .nil
 (A:=List aj) (B:=Option (List Int)) (fun m v i=>match v with |none=>qbu m |some v=>qes m v i) (fun m=>m.length) (fun m i v=>fF m/\match v with |none=>i=0 |some v=>v=iA (m.take i))
 (fun m x=>(∃v,v=iA m/\x=(.exit 0,⟨41,[(3,vD v)],[]⟩))\/(iA m=[]/\x=(.exit 0,⟨41,[(3,.sl 0 0 0)],[(0,⟨0,none,LG false []⟩)]⟩)))
 (by
  rintro m v i post h0 bS bc ⟨hr,hv⟩ hn ho
  have hg:=hr.2 _ (List.getElem_mem bc)
  have Kh:=hr.1
  have hw:=fun(h1:1<=(m[i.toNat]'bc).s.2) (h2:(m[i.toNat]'bc).s.2<=16)=>Lm (l:=m.take i.toNat) (g:=m[i.toNat]'bc) h1 h2
  rw[<-List.take_succ_eq_append_getElem bc] at hw
  have e1:D.nth (m.map aP) i.toNat=aP m[i.toNat]:=ay _ _ _ bc
  cases v with
  |none=>
   dsimp only at*
   have sX:i=0:=by omega
   subst sX
   have hv0:iA (m.take (0:Int).toNat)=[]:=by rfl
   rw[hv0] at hw
   (rw[<-Qu];delta ZR ZS ZO cK kJ u5 xS ZP dm lM kR Zs zk Zw Zu Zk Z6T XZ gO Z6R Z6Q)
   rw[show D.nth (m.map aP) 0=aP m[(0:Int).toNat] from e1]
   generalize m[(0:Int).toNat]=g at hg hw
   refine bV (by omega) (ak ⟨by omega,by omega⟩ (ak (by simpa using bc) (aq (df _) (ak ⟨by omega,by omega⟩ (ak (by simpa using bc) (aq (df _) ⟨[],g.s.2,rfl,rfl,by simp,fun n Fw=>ak ⟨by omega,by omega⟩ (ak (by simpa using bc) (aq (df _) ⟨[],g.s.2,_,rfl,rfl,⟨by simp,hg.1,hg.2.1⟩,fun w hww=> ?_⟩))⟩))))))
   refine hn (some w) ⟨hr,?_⟩
   show w=_
   rw[hww,Fw]
   exact hw hg.1 hg.2.1
  |some v=>
   dsimp only at*
   (rw[<-Qt];delta cK kJ u5 xS Zm AF dm lM kR Za Z9 Zj Zs Zg fQ zk Zw Zu lG Zk c8 gO gS jq vI;rw[e1])
   rw[<-hv] at hw
   generalize m[i.toNat]=g at hg hw
   have Sf:v.length<=1000000:=by rw[hv];have:=o8 (m.take i.toNat);omega
   refine bV (by omega) (ak ⟨by omega,by omega⟩ (ak (by simpa using bc) (aq (df _) (ak ⟨by omega,by omega⟩ (ak (by simpa using bc) (aq (df _) ⟨v,g.s.2,rfl,rfl,Sf,fun n Fw=>ak ⟨by omega,by omega⟩ (ak (by simpa using bc) (aq (df _) ⟨v,g.s.2,_,rfl,rfl,⟨Sf,hg.1,hg.2.1⟩,fun w hww=>ak (by omega) ?_⟩))⟩))))))
   refine hn (some w) ⟨hr,?_⟩
   show w=_
   rw[hww,Fw]
   exact hw hg.1 hg.2.1)
 (by
  rintro m v i post hi ⟨hr,hv⟩ ho
  cases v with
  |none=>
   dsimp only at*
   have:m=[]:=List.eq_nil_of_length_eq_zero hv
   subst this
   (rw[<-Qu];delta ZR ZS ZO cK kJ u5 xS ZP dm lM kR Zs zk Zw Zu Zk Z6T XZ gO Z6R Z6Q)
   exact nv (by simp) (ho _ (fun h=>by cases h) (.inr ⟨rfl,rfl⟩))
  |some v=>
   dsimp only at*
   (rw[<-Qt];delta cK kJ u5 xS Zm AF dm lM kR Za Z9 Zj Zs Zg fQ zk Zw Zu lG Zk c8 gO gS jq vI)
   refine nv (by omega) (ho _ (fun h=>by cases h) (.inl ⟨v,?_,rfl⟩))
   rw[hv,List.take_length])
 (by
  rintro s post ⟨m,rfl,hs,h1,h2⟩
  refine⟨m,none,rfl,⟨hs,rfl⟩,?_⟩
  rintro x (⟨v,h3,rfl⟩| ⟨h3,rfl⟩)
  ·exact h1 v h3
  ·exact h2 h3)
theorem X0:FD X 28 Qv:=FD.mk (H:=[(40,ma)]) (hk:=[(4,ae (aK 28 4) qbv)]) (by kernel_rfl) (.cons pe .nil) (.cons Vx .nil) (by
 intro ps R post hh
 obtain⟨l,rfl,rfl,hs,h1,h2⟩:=hh
 (rw[<-qet];delta ZR ZS ZO Zk cK kJ u5 Z7 UR yy dm lM kR Z6U Zw fR qb)
 exact⟨l,rfl,rfl,hs,fun m hm=>⟨m,rfl,by rw[hm];exact mf hs.1,fun v hv=>h1 v (by rw[hv,hm]),fun h=>h2 (by rw[<-hm];exact h)⟩⟩)
end
end Pi
namespace Pi
open Go Go.Proofs
set_option maxRecDepth 100000
set_option maxHeartbeats 0
abbrev qby:Obj:= .box 34 [iD 0,iD 0,iD 0,.sl 1 0 0,iD 0,iD 0,.sl 2 0 0]
abbrev qbz (l:List aj) (r:Int) (m:List aj) (t i:Int):S:=⟨54,[(0,bO l),(1,iD r),(4,.ref 0 0 0),(6,iD t),(7,.sl 3 0 m.length),(8,iD i)],[(0,⟨0,none,qby⟩),(1,⟨0,none,LG false []⟩),(2,⟨0,none,.arr 54 false []⟩),(3,⟨0,none,my false m⟩)]⟩
theorem Qx (l:List aj) (r:Int) (m:List aj) (t i:Int) (post:PX×S->Prop):(bif vI i m then bif jq i m then bif gS i m then bif c8 m i then bif Zj i then post (PX.normal,S.mk 54 (lH l::ZD r::jR::(6,P.d (D.int IntKind.i64 (max t (D.ah (D.ao (fQ m i) 0)))))::(7,P.sl 3 0 (dm m))::rC i) (SD m)) else False else False else False else False else post (PX.exit 0,S.mk 54 [lH l,ZD r,jR,ZI t] Z6J))=(aF [] [] 23 6 (qbz l r m t i)) post:=by kernel_rfl
def qbA:S->K (PX×S):=fun st post=> ∃l r m,st=qbz l r m 0 0/\fF m/\ ∀t,t=zl m->post (.exit 0,⟨54,[(0,bO l),(1,iD r),(4,.ref 0 0 0),(6,iD t)],[(0,⟨0,none,qby⟩),(1,⟨0,none,LG false []⟩),(2,⟨0,none,.arr 54 false []⟩)]⟩)
def Z6V (l:List aj) (r:Int) (m:List aj):S:=S.mk 54 (lH l::ZD r::jR::(6,P.d Z7)::(7,P.sl 3 0 (dm m))::MI) (SD m)
theorem qev (l:List aj) (r:Int) (post:P×List (Nat×En)->Prop):(bif Z6 r then Z6M post else bif ZW r then Z6M post else∃(ar:List aj),qb l ar/\Zw/\jc ar/\ ∀(m:List aj),m=az ar-> ∃(gq:List aj) (cA:Int) (bL:List aj),Z6V l r m=Z6V gq cA bL/\fF bL/\ ∀(t:Int),t=zl bL-> ∃(l:List aj),qb gq l/\Zw/\jc l/\(∀(v:List Int),v=iA (az l)-> ∃(cV:List Int) (r:Int),Zv v cA cV r/\Zw/\zk cV/\ ∀(n:Int),n=uW cV r->bif Zj n then bif decide (t>=Z1) then Z6O post else bif decide (n+(1:Int)>Z1) then Z6O post else Z6P t post cA n v else False)/\(iA (az l)=[]-> ∃(v:List Int) (r:Int),XZ::Zu cA=Zk v::Zu r/\Zw/\zk v/\ ∀(n:Int),n=uW v r->bif Zj n then bif decide (t>=Z1) then Z6O post else bif decide (n+(1:Int)>Z1) then Z6O post else bif Zj t then post (P.da (P.d (D.agg (Zm t::Zs cA::Zm n::D.sl 1 []::Z6K))::ZY),[]) else False else False))=(aH [(40,ma),(28,Qv),(13,tD)] [(6,ae (aK 23 6) qbA)] 23 [bO l,iD r] []) post:=by kernel_rfl
end Pi
namespace Pi
open Go Go.Proofs
set_option maxRecDepth 100000
theorem pR {l:List aj} {r:Int} (h: ¬(1<=r/\r<=16)):qF l r=1:=by
 unfold qF
 rw[if_pos h]
theorem iB {l:List aj} {r:Int} (h:qF l r≠0):kI l r=noG:=by
 unfold kI
 rw[if_neg h]
theorem EZ {l:List aj} {r:Int} (h:1<=r/\r<=16):qF l r=if max (zl l+1) (EM l r+1)>1099511627776 then 2 else 0:=by
 unfold qF
 rw[if_neg (by simpa using h)]
section
variable {X:XF}
theorem qew:FD X 12 XY:=FD.mk (H:=[(30,ma),(27,hHv),(31,tD)]) (hk:=[(5,ae (aK 12 5) gHn)]) (by kernel_rfl) (.cons Jn (.cons qeu (.cons Xy .nil))) (.cons qbx .nil) (by
 intro ps R post hh
 obtain⟨l,r,rfl,rfl,hs,hp⟩:=hh
 (rw[<-qgA];delta Z7 ZY Z6K Zs Zm Za Z9 Zj Z6P Z6L Z6O Z1 zk Zu Zk Zv cK kJ XV ZR yy XW SD dm AK bQ jR ZD Z6N Zw fR qb ZW ZP ZV Z6M Z6)
 have Qy: ¬(1<=r/\r<=16)->post (.da [.d (aP noG),iD 1],[]):=fun h=>hp _ _ (iB (by rw[pR h];omega)).symm (pR h).symm
 refine bJ (fun h1=>Qy (by omega)) fun h1=>bJ (fun h2=>Qy (by omega)) fun h2=>⟨l,rfl,rfl,hs,fun v hv=>⟨l,rfl,rfl,hs,fun m hm=>⟨r,v,m,rfl,by rw[hm];exact mf hs.1,fun t ht=>⟨v,r,rfl,rfl,?_,fun n hn=> ?_⟩⟩⟩⟩
 ·rw[hv];have:=o8 (az l);omega
 ·have qH:=mf hs.1
  have yr:=Pz m
  have ht3:zl m<=1099511627776:=Py (by omega) m fun g hg=>by rw[hm] at hg;exact(qH.2 g hg).2.2.2.1
  have J5:n=EM m r:=by rw[hn,hv,pN _ _ (by omega) (by omega),hm]
  have hn3:0<=EM m r:=xP m r
  have hn4:EM m r<=1099511627776:=HB m 0 (by omega) fun g hg=>by rw[hm] at hg;exact(qH.2 g hg).2.2.2.2.2
  have hE:=EZ (l:=m) (r:=r) ⟨by omega,by omega⟩
  rw[<-hm] at hp
  refine ak (by omega) (ak (by omega) (bJ (fun h3=> ?_) fun h3=>ak (by omega) ?_))
  ·rw[if_pos (by rw[<-ht,<-J5];exact h3)] at hE
   exact hp _ _ (iB (by rw[hE];omega)).symm hE.symm
  ·rw[if_neg (by rw[<-ht,<-J5];exact h3)] at hE
   have hX:kI m r=EO m r:=by unfold kI;rw[if_pos hE]
   have:=hp _ _ rfl rfl
   rw[hX,hE] at this
   rw[ht,J5,hv,<-hm]
   exact this)
theorem Vy:LD X 23 6 (ae (aK 23 6) qbA):=LD.idx (H:=[]) (hk:=[]) (by kernel_rfl) (by kernel_rfl) .nil .nil
 (A:=List aj×Int×List aj) (B:=Int) (fun a t i=>qbz a.1 a.2.1 a.2.2 t i) (fun a=>a.2.2.length) (fun a i t=>fF a.2.2/\t=zl (a.2.2.take i))
 (fun a x=>x=(.exit 0,⟨54,[(0,bO a.1),(1,iD a.2.1),(4,.ref 0 0 0),(6,iD (zl a.2.2))],[(0,⟨0,none,qby⟩),(1,⟨0,none,LG false []⟩),(2,⟨0,none,.arr 54 false []⟩)]⟩))
 (by
  rintro⟨l,r,m⟩ t i post h0 bS bc ⟨hr,ht⟩ hn ho
  try dsimp only at*
  (rw[<-Qx];delta XV ZR yy Z7 XW Z6J Zs ZI cK kJ SD Zm rC dm Zg fQ bQ jR ZD fR lH Za Z9 Zj c8 gO gS jq vI)
  have e1:D.nth (m.map aP) i.toNat=aP m[i.toNat]:=ay _ _ _ bc
  have Kh:=hr.1
  have wh:=EY bc
  rw[e1]
  generalize m[i.toNat]=g at wh
  refine bV bS (ak ⟨h0,bS⟩ (ak (by simpa using bc) (aq (df _) (ak (by omega) (hn _ ⟨hr,?_⟩)))))
  rw[wh,<-ht]
  rfl)
 (by
  rintro⟨l,r,m⟩ t i post hi ⟨hr,ht⟩ ho
  try dsimp only at*
  (rw[<-Qx];delta XV ZR yy Z7 XW Z6J Zs ZI cK kJ SD Zm rC dm Zg fQ bQ jR ZD fR lH Za Z9 Zj c8 gO gS jq vI)
  refine nv (by omega) (ho _ (fun h=>by cases h) ?_)
  rw[ht,List.take_length]
  rfl)
 (by
  rintro s post ⟨l,r,m,rfl,hs,hp⟩
  refine⟨(l,r,m),0,rfl,⟨hs,rfl⟩,?_⟩
  rintro x rfl
  exact hp _ rfl)
theorem qex:FD X 23 XY:=FD.mk (H:=[(40,ma),(28,Qv),(13,tD)]) (hk:=[(6,ae (aK 23 6) qbA)]) (by kernel_rfl) (.cons pe (.cons X0 (.cons Hw .nil))) (.cons Vy .nil) (by
 intro ps R post hh
 obtain⟨l,r,rfl,rfl,hs,hp⟩:=hh
 (rw[<-qev];delta Z7 ZY Z6K Zs Zm Zk Zu XZ Za Z9 Zj Z6P Z6L Z6O Z1 zk Zv cK kJ XV ZR yy XW SD MI dm bQ jR ZD fR lH Z6V Zw qb ZW ZP ZV Z6M Z6)
 have Qy: ¬(1<=r/\r<=16)->post (.da [.d (aP noG),iD 1],[]):=fun h=>hp _ _ (iB (by rw[pR h];omega)).symm (pR h).symm
 refine bJ (fun h1=>Qy (by omega)) fun h1=>bJ (fun h2=>Qy (by omega)) fun h2=>⟨l,rfl,rfl,hs,fun m hm=>⟨l,r,m,rfl,by rw[hm];exact mf hs.1,fun t ht=>⟨l,rfl,rfl,hs,fun v hv=>⟨v,r,rfl,rfl,?_,fun n hn=> ?_⟩,fun hv0=>⟨[],r,rfl,rfl,by simp,fun n hn=> ?_⟩⟩⟩⟩
 all_goals
  have qH:=mf hs.1
  have yr:=Pz m
  have ht3:zl m<=1099511627776:=Py (by omega) m fun g hg=>by rw[hm] at hg;exact(qH.2 g hg).2.2.2.1
  have hn3:0<=EM m r:=xP m r
  have hn4:EM m r<=1099511627776:=HB m 0 (by omega) fun g hg=>by rw[hm] at hg;exact(qH.2 g hg).2.2.2.2.2
  have hE:=EZ (l:=m) (r:=r) ⟨by omega,by omega⟩
  rw[<-hm] at hp
 ·rw[hv];have:=o8 (az l);omega
 all_goals
  have J5:n=EM m r:=by first |rw[hn,hv,pN _ _ (by omega) (by omega),hm]|rw[hn,<-hv0,pN _ _ (by omega) (by omega),hm]
  refine ak (by omega) (bJ (fun h4=> ?_) fun h4=>bJ (fun h5=> ?_) fun h5=>ak (by omega) ?_)
 ·rw[if_pos (by omega)] at hE
  exact hp _ _ (iB (by rw[hE];omega)).symm hE.symm
 ·rw[if_pos (by omega)] at hE
  exact hp _ _ (iB (by rw[hE];omega)).symm hE.symm
 ·rw[if_neg (by omega)] at hE
  have hX:kI m r=EO m r:=by unfold kI;rw[if_pos hE]
  have:=hp _ _ rfl rfl
  rw[hX,hE] at this
  rw[ht,J5,hv,<-hm]
  exact this
 ·rw[if_pos (by omega)] at hE
  exact hp _ _ (iB (by rw[hE];omega)).symm hE.symm
 ·rw[if_pos (by omega)] at hE
  exact hp _ _ (iB (by rw[hE];omega)).symm hE.symm
 ·rw[if_neg (by omega)] at hE
  have hX:kI m r=EO m r:=by unfold kI;rw[if_pos hE]
  have:=hp _ _ rfl rfl
  rw[hX,hE] at this
  unfold EO at this
  rw[hm,hv0,<-hm] at this
  rw[ht,J5]
  exact this)
end
end Pi
namespace Pi
open Go Go.Proofs
set_option maxRecDepth 100000
set_option maxHeartbeats 0
def ltA (a b:aj):Bool:=qC a.s b.s
abbrev roK (m out:List aj) (n:Nat) (r i k:Int):S:=⟨69,[(0,.sl 0 0 m.length),(1,iD r),(5,.sl 1 0 n),(6,iD i),(7,iD k)],[(0,⟨0,none,my false m⟩),(1,⟨0,none,my false out⟩)]⟩
def FH (n:Nat):Nat×P:=(5,P.sl 1 0 n)
def Z71 (post:PX×S->Prop) (m:List aj) (r:Int) (n:Nat) (i:Int) (out:List aj):Prop:=post (PX.exit 2,S.mk 69 [kR m,ZD r,FH n,ZI i] [u5 m,rD out])
def MJ (out:List aj) (k:Int):D:=D.nth (cK out) (Zc k)
def Z6Y (out:List aj) (k:Int):List D:=List.set (cK out) (Zg k) (D.aY (D.agg (uE out k)) [D.int IntKind.i64 (D.ah (D.ao (MJ out k) 0)),D.int IntKind.i64 (D.ah (D.ao (MJ out k) 1)),D.int IntKind.i64 (D.ah (D.ao (MJ out k) 2)),D.sl 1 (D.ez (D.ao (MJ out k) 3)),D.int IntKind.i64 (D.ah (D.ao (MJ out k) 4)),D.int IntKind.i64 (D.ah (D.ao (MJ out k) 5)),D.sl 18 (D.ez (D.ao (MJ out k) 6))])
def Vz (out:List aj) (k:Int):D:=D.nth (Z6Y out k) (Zc k)
def AL (k:Int) (n:Nat):Bool:=decide ((0:Int)<=k-(1:Int)/\k-(1:Int)<(↑n:Int))
theorem qey (m out:List aj) (n:Nat) (r i k:Int) (post:PX×S->Prop):(bif Zq k then bif nN k n then bif gS k out then bif c8 out k then bif Zb k then bif AL k n then bif decide (Zc k<gO out) then bif cX PR (34:TypeId) (MJ out k) then∃(a:ax) (b:ax),[P.d (rz out k),P.d (D.agg [D.int IntKind.i64 (D.ah (D.ao (MJ out k) 0)),D.int IntKind.i64 (D.ah (D.ao (MJ out k) 1))])]=ED a b/\Zw/\ ∀(cA:Bool),cA=qC a b->bif cA then bif Zb k then bif Zb k then bif AL k n then bif decide (Zc k<gO out) then bif cX PR (34:TypeId) (MJ out k) then bif nN k n then bif gS k out then bif c8 out k then bif nN k n then bif gS k out then bif c8 out k then bif AL k n then bif decide (Zc k<List.length (Z6Y out k)) then bif cX PR (34:TypeId) (Vz out k) then bif Zb k then post (PX.normal,S.mk 69 [kR m,ZD r,FH n,ZI i,(7,Zr k)] [u5 m,(1,En.mk 0 none (Obj.arr (34:TypeId) false (List.set (Z6Y out k) (Zc k) (D.aY (D.agg [D.int IntKind.i64 (D.ah (D.ao (Vz out k) 0)),D.int IntKind.i64 (D.ah (D.ao (Vz out k) 1)),D.int IntKind.i64 (D.ah (D.ao (Vz out k) 2)),D.sl 1 (D.ez (D.ao (Vz out k) 3)),D.int IntKind.i64 (D.ah (D.ao (Vz out k) 4)),D.int IntKind.i64 (D.ah (D.ao (Vz out k) 5)),D.sl 18 (D.ez (D.ao (Vz out k) 6))]) (uE out k)))))]) else False else False else False else False else False else False else False else False else False else False else False else False else False else False else False else Z71 post m r n i out else False else False else False else False else False else False else False else Z71 post m r n i out)=(aF [(14,o6)] [] 41 9 (roK m out n r i k)) post:=by kernel_rfl
abbrev roH (m out:List aj) (r i:Int):S:=⟨69,[(0,.sl 0 0 m.length),(1,iD r),(5,.sl 1 0 out.length),(6,iD i)],[(0,⟨0,none,my false m⟩),(1,⟨0,none,my false out⟩)]⟩
def qbB:S->K (PX×S):=fun st post=> ∃m o x n r i k,st=roK m (o++[x]) n r i k/\(k=(o.length:Int)/\n=o.length+1/\o.length<=1000000)/\ ∀o',o'=dy ltA o x->post (.exit 2,roH m o' r i)
def Z72 (i:Int) (post:PX×S->Prop) (m:List aj) (r:Int) (out:List aj):Prop:=bif Zj i then post (PX.normal,S.mk 69 (kR m::ZD r::(5,lN out)::Zy i) [u5 m,rD out]) else False
theorem X1 (m out:List aj) (r i:Int) (post:PX×S->Prop):(bif vI i m then bif jq i m then bif gS i m then bif c8 m i then bif D.ah (D.ao (fQ m i) 1) !=r then Z72 i post m r out else bif jq i m then bif gS i m then bif c8 m i then bif U3 out m i then bif decide (Z9<=(↑(EP out m i):Int)-(1:Int)/\(↑(EP out m i):Int)-(1:Int)<=Za) then∃(bL:List aj) (o:List aj) (x:aj) (n:Nat) (cA:Int) (aJ:Int) (k:Int),S.mk 69 [kR m,ZD r,(5,P.sl 1 0 (EP out m i)),ZI i,(7,P.d (D.int IntKind.i64 ((↑(EP out m i):Int)-(1:Int))))] [u5 m,(1,U2 out m i)]=S.mk 69 [kR bL,ZD cA,FH n,ZI aJ,tI k] [u5 bL,(1,En.mk 0 none (Obj.arr (34:TypeId) false (List.map aP (o++[x]))))]/\(k=(↑(dm o):Int)/\n=dm o+1/\mA o)/\ ∀(o':List aj),o'=dy ltA o x->Z72 aJ post bL cA o' else False else False else False else False else False else False else False else False else post (PX.exit 0,S.mk 69 [(5,lM out)] (xS out)))=(aF [] [(9,ae (aK 41 9) qbB)] 41 4 (roH m out r i)) post:=by kernel_rfl
def qc (m:List aj) (r:Int):List aj:=cN ltA (m.filter fun g=>g.s.2==r)
def qbC:S->K (PX×S):=fun st post=> ∃m r,st=roH m [] r 0/\m.length<=1000000/\ ∀o,o=qc m r->post (.exit 0,⟨69,[(5,.sl 0 0 o.length)],[(0,⟨0,none,my false o⟩)]⟩)
def Z73 (m:List aj) (r:Int):S:=S.mk 69 (kR m::ZD r::(5,yy)::CD) [u5 m,(1,XG)]
theorem qgB (l:List aj) (r:Int) (post:P×List (Nat×En)->Prop):(∃(ar:List aj),qb l ar/\Zw/\jc ar/\ ∀(m:List aj),m=az ar-> ∃(bL:List aj) (cA:Int),Z73 m r=Z73 bL cA/\mA bL/\ ∀(o:List aj),o=qc bL cA->post (lM o,xS o))=(aH [(40,ma)] [(4,ae (aK 41 4) qbC)] 41 [bO l,iD r] []) post:=by kernel_rfl
def hRo:bm:=fun ps R post=> ∃l r,ps=[bO l,iD r]/\R=[]/\jc l/\ ∀o,o=qc (az l) r->post (.sl 0 0 o.length,[(0,⟨0,none,my false o⟩)])
end Pi
namespace Pi
open Go Go.Proofs
set_option maxRecDepth 100000
theorem pk {m:List aj} {i:Nat} (h:i<m.length) (t:aj->Bool):(m.take (i+1)).filter t=(m.take i).filter t++(if t m[i]=true then [m[i]] else []):=by
 rw[List.take_succ_eq_append_getElem h,List.filter_append]
 congr 1
 by_cases ht:t m[i]=true
 ·rw[if_pos ht];simp[ht]
 ·rw[if_neg ht];simp[ht]
section
variable {X:XF}
theorem VA:LD X 41 9 (ae (aK 41 9) qbB):=LD.ins (H:=[(14,o6)]) (hk:=[]) (by kernel_rfl) (by kernel_rfl) (.cons xK .nil) .nil
 (A:=List aj×Int×Int×Nat) (α:=aj) (fun a o k=>roK a.1 o a.2.2.2 a.2.1 a.2.2.1 k) ltA (fun a=>a.2.2.2) (fun _=>True) (fun a o=>(.exit 2,⟨69,[(0,.sl 0 0 a.1.length),(1,iD a.2.1),(5,.sl 1 0 a.2.2.2),(6,iD a.2.2.1)],[(0,⟨0,none,my false a.1⟩),(1,⟨0,none,my false o⟩)]⟩)) (fun _ _ h=>by cases h)
 (by
  rintro⟨m,r,i,n⟩ o k post _ h0 Lz nM hk hz b9 fM
  try dsimp only at*
  subst Lz
  (rw[<-qey];delta cK kJ rD u5 Zs ZI FH ZD dm lM kR Z71 Zg fQ lG mz uE Zr Zc MJ Z6Y Vz Zw mr nq ED rz gO AL Za Z9 Zb c8 gS nN Zq)
  refine bJ (fun hp=> ?_) fun hp=>hz (by omega)
  have gh:k.toNat-1<o.length:=by omega
  have e1:D.nth (o.map aP) k.toNat=aP o[k.toNat]:=ay _ _ _ hk
  have e2:D.nth (o.map aP) (k-1).toNat=aP o[k.toNat-1]:=by rw[show(k-1).toNat=k.toNat-1 by omega];exact ay _ _ _ gh
  have b9:=b9 hp
  have fM:=fM hp
  rw[e1,e2]
  have CG:=mb aP o k.toNat o[k.toNat] o[k.toNat-1]
  have e3: ∀z,D.nth ((o.map aP).set k.toNat z) (k-1).toNat=aP o[k.toNat-1]:=fun z=>by
   rw[show(k-1).toNat=k.toNat-1 by omega]
   unfold D.nth
   rw[List.getD_eq_getElem?_getD,List.getElem?_set_ne (by omega)]
   simp[gh]
  generalize o[k.toNat]=x at*
  generalize o[k.toNat-1]=y at*
  have w1: ∀x y:aj,D.aY (D.agg [D.int .i64 (D.ah (D.ao (aP x) 0)),D.int .i64 (D.ah (D.ao (aP x) 1)),D.int .i64 (D.ah (D.ao (aP x) 2)),D.sl 1 (D.ez (D.ao (aP x) 3)),D.int .i64 (D.ah (D.ao (aP x) 4)),D.int .i64 (D.ah (D.ao (aP x) 5)),D.sl 18 (D.ez (D.ao (aP x) 6))]) [D.int .i64 (D.ah (D.ao (aP y) 0)),D.int .i64 (D.ah (D.ao (aP y) 1)),D.int .i64 (D.ah (D.ao (aP y) 2)),D.sl 1 (D.ez (D.ao (aP y) 3)),D.int .i64 (D.ah (D.ao (aP y) 4)),D.int .i64 (D.ah (D.ao (aP y) 5)),D.sl 18 (D.ez (D.ao (aP y) 6))]=aP y:=fun _ _=>rfl
  rw[w1,e3,w1,show(k-1).toNat=k.toNat-1 by omega,CG]
  simp only[roK,List.length_map,List.length_set] at fM⊢
  have CH:0<=k/\k<(o.length:Int):=⟨h0,by omega⟩
  have CI:0<=k-1/\k-1<(o.length:Int):=⟨by omega,by omega⟩
  have hf:(-9223372036854775808:Int)<=k-1/\k-1<=9223372036854775807:=by omega
  refine ak CH (ak hk (aq (df _) (ak hf (ak CI (ak gh (aq (df _) ⟨x.s,y.s,rfl,rfl,fun r hr=>aw (fun h=> ?_) fun h=>b9 (by rw[<-h,hr];rfl)⟩))))))
  refine ak hf (ak hf (ak CI (ak gh (aq (df _) (ak CH (ak hk (aq (df _) (ak CH (ak hk (aq (df _) (ak CI (ak gh (aq (df _) (ak hf ?_))))))))))))))
  exact fM (by rw[<-h,hr];rfl))
 (by
  rintro s post ⟨m,o,x,n,r,i,k,rfl,⟨hk,hn,ho⟩,hp⟩
  refine⟨(m,r,i,n),o,x,k,rfl,hk,trivial,⟨hn.symm,ho⟩,?_⟩
  have:=hp _ rfl
  rw[roH,pg,<-hn] at this
  exact this)
theorem VB:LD X 41 4 (ae (aK 41 4) qbC):=LD.idx (H:=[]) (hk:=[(9,ae (aK 41 9) qbB)]) (by kernel_rfl) (by kernel_rfl) .nil (.cons VA .nil)
 (A:=List aj×Int) (B:=List aj) (fun a o i=>roH a.1 o a.2 i) (fun a=>a.1.length) (fun a i o=>a.1.length<=1000000/\o=qc (a.1.take i) a.2)
 (fun a x=>x=(.exit 0,⟨69,[(5,.sl 0 0 (qc a.1 a.2).length)],[(0,⟨0,none,my false (qc a.1 a.2)⟩)]⟩))
 (by
  rintro⟨m,r⟩ o i post h0 bS bc ⟨Kh,ho⟩ hn cp
  try dsimp only at*
  (rw[<-X1];delta cK kJ u5 xS dm lM mA Zs tI FH Zg fQ lG mz uE U2 ZI ZD kR Za EP Z9 gO U3 rD Zm Zy lN Zj Z72 c8 gS jq vI)
  have nM:o.length<=i.toNat:=by
   rw[ho,qc,pO]
   refine Nat.le_trans (List.length_filter_le _ _) ?_
   simp
   omega
  have e2:D.nth (m.map aP) i.toNat=aP m[i.toNat]:=ay _ _ _ bc
  have kK:=pk bc (fun g=>g.s.2==r)
  generalize m[i.toNat]=g at kK e2
  have t2:D.agg [D.int .i64 (D.ah (D.ao (aP g) 0)),D.int .i64 (D.ah (D.ao (aP g) 1)),D.int .i64 (D.ah (D.ao (aP g) 2)),D.sl 1 (D.ez (D.ao (aP g) 3)),D.int .i64 (D.ah (D.ao (aP g) 4)),D.int .i64 (D.ah (D.ao (aP g) 5)),D.sl 18 (D.ez (D.ao (aP g) 6))]=aP g:=rfl
  have c1:D.ah (D.ao (aP g) 1)=g.s.2:=rfl
  rw[e2,t2,c1,dU]
  simp only[List.length_map,List.length_cons,List.length_nil,Nat.zero_add]
  refine bV bS (ak ⟨h0,bS⟩ (ak bc (aq (df _) (xr (fun h1=>ak (by omega) (hn _ ⟨Kh,?_⟩)) fun h1=>ak ⟨h0,bS⟩ (ak bc (aq (df _) (aq ?_ (ak (by omega) ⟨m,o,g,o.length+1,r,i,((o.length+1:Nat):Int)-1,rfl,⟨by omega,rfl,by omega⟩,fun o' lW=>ak (by omega) (hn _ ⟨Kh,?_⟩)⟩))))))))
  ·rw[qc,kK,if_neg (by simpa using h1),List.append_nil]
   exact ho
  ·rw[Bool.and_eq_true]
   exact⟨by simp,cD (by omega) (by omega)⟩
  ·rw[qc,kK,if_pos (by simpa using h1),xX,lW,ho]
   rfl)
 (by
  rintro⟨m,r⟩ o i post hi ⟨Kh,ho⟩ cp
  try dsimp only at*
  (rw[<-X1];delta cK kJ u5 xS dm lM mA Zs tI FH Zg fQ lG mz uE U2 ZI ZD kR Za EP Z9 gO U3 rD Zm Zy lN Zj Z72 c8 gS jq vI)
  refine nv (by omega) (cp _ (fun h=>by cases h) ?_)
  rw[ho,List.take_length])
 (by
  rintro s post ⟨m,r,rfl,hs,hp⟩
  refine⟨(m,r),[],rfl,⟨hs,rfl⟩,?_⟩
  rintro x rfl
  exact hp _ rfl)
theorem qez:FD X 41 hRo:=FD.mk (H:=[(40,ma)]) (hk:=[(4,ae (aK 41 4) qbC)]) (by kernel_rfl) (.cons pe .nil) (.cons VB .nil) (by
 intro ps R post hh
 obtain⟨l,r,rfl,rfl,hs,hp⟩:=hh
 (rw[<-qgB];delta cK kJ u5 xS dm lM mA XG Z7 CD yy Zs ZD kR Z73 Zw fR qb)
 have:=cv l
 exact⟨l,rfl,rfl,hs,fun m hm=>⟨m,r,rfl,by rw[hm];have:=hs.1;omega,fun o ho=>hp o (by rw[ho,hm])⟩⟩)
theorem E0 {m:List aj} {r:Int} (hn:(m.map (·.s)).Nodup):(qc m r).reverse=xQ m r:=by
 refine Ji hn ((List.reverse_perm _).trans (cW _)) ?_
 rw[List.pairwise_reverse]
 exact pJ qE (fun g:aj=>g.s) _
end
end Pi
namespace Pi
open Go Go.Proofs
set_option maxRecDepth 100000
set_option maxHeartbeats 0
abbrev bxN (n:Nat) (r:Int):Nat×En:=(n,⟨0,some n,.box 3 [iD r]⟩)
def lJ (r:Int) (x:aj):Bool:=x.s.2 !=r
def E1:bm:=fun ps R post=> ∃(x:aj) (r:Int),ps=[.d (aP x),.ref 0 0 0]/\R=[bxN 0 r]/\post (.d (.bool (lJ r x)),[bxN 0 r])
theorem qbD (x:aj) (r:Int) (post:P×List (Nat×En)->Prop):(post (P.d (D.bool (Prod.snd (aj.s x) !=r)),[(0,En.mk 0 (some 0) (Obj.box 3 [P.d (D.int IntKind.i64 r)]))]))=(aH [] [] 63 [.d (aP x),.ref 0 0 0] [bxN 0 r]) post:=by kernel_rfl
abbrev Qz (m:List aj) (r:Int):List (Nat×En):=[(0,⟨0,some 0,my false m⟩),bxN 1 r]
abbrev CL:P:= .fn 63 [.ref 1 0 0]
abbrev ixO (m:List aj) (r n k:Int):S:=⟨19,[(0,.sl 0 0 m.length),(1,CL),(7,iD n),(8,iD k)],Qz m r⟩
abbrev oxO (m:List aj) (r:Int) (i:Int):PX×S:=(.ret,⟨19,[(0,.sl 0 0 m.length),(1,CL),(4,iD i)],Qz m r⟩)
abbrev oxE (m:List aj) (r:Int):PX×S:=(.exit 0,⟨19,[(0,.sl 0 0 m.length),(1,CL)],Qz m r⟩)
def MK (cA:Int):List (Nat×En):=[(1,En.mk 0 (some 1) (Obj.box (3:TypeId) (Zu cA)))]
def VC:Nat×P:=(1,P.fn (63:FuncId) [iM])
def Z75 (r:Int):List (Nat×En):=[(0,En.mk 0 (some 0) (Obj.box (3:TypeId) (Zu r)))]
def Z74 (m:List aj) (k:Int) (x:aj):Prop:=[P.d (D.agg (uE m k)),bQ]=[l8 x,bQ]
theorem X2 (m:List aj) (r n k:Int) (post:PX×S->Prop):(bif ZG k n then bif jq k m then bif gS k m then bif c8 m k then∃(x:aj) (cA:Int),Z74 m k x/\Z75 r=Z75 cA/\bif lJ cA x then post (PX.ret,S.mk 19 (kR m::VC::C6 k) (Cv m::MK cA)) else bif Zj k then post (PX.normal,S.mk 19 (kR m::VC::tI n::rC k) (Cv m::MK cA)) else False else False else False else False else post (PX.exit 0,S.mk 19 [kR m,VC] (Cv m::MK r)))=(aF [(63,E1)] [] 96 2 (ixO m r n k)) post:=by kernel_rfl
def qbE:S->K (PX×S):=fun s post=> ∃m r,s=ixO m r (m.length:Int) 0/\m.length<=1000000/\(∀(i:Int) (hi:i.toNat<m.length),0<=i->lJ r m[i.toNat]=true->(∀j (hj:j<i.toNat),lJ r (m[j]'(by omega))=false)->post (oxO m r i))/\((∀j (hj:j<m.length),lJ r m[j]=false)->post (oxE m r))
theorem qbF (m:List aj) (r:Int) (post:P×List (Nat×En)->Prop):(∃(bL:List aj),∃(cA:Int),S.mk 19 [(0,P.sl 0 0 (List.length m)),(1,P.fn 63 [P.ref 1 0 0]),(7,P.d (D.int IntKind.i64 (↑(List.length m):Int))),(8,P.d (D.int IntKind.i64 (0:Int)))] [(0,En.mk 0 (some 0) (Obj.arr 34 false (List.map aP m))),(1,En.mk 0 (some 1) (Obj.box 3 [P.d (D.int IntKind.i64 r)]))]=S.mk 19 [(0,P.sl 0 0 (List.length bL)),(1,P.fn 63 [P.ref 1 0 0]),(7,P.d (D.int IntKind.i64 (↑(List.length bL):Int))),(8,P.d (D.int IntKind.i64 (0:Int)))] [(0,En.mk 0 (some 0) (Obj.arr 34 false (List.map aP bL))),(1,En.mk 0 (some 1) (Obj.box 3 [P.d (D.int IntKind.i64 cA)]))]/\List.length bL<=1000000/\(∀(i:Int) (hi:Int.toNat i<List.length bL),(0:Int)<=i->lJ cA bL[Int.toNat i]=true->(∀(j:Nat) (hj:j<Int.toNat i),lJ cA bL[j]=false)->post (P.d (D.int IntKind.i64 i),[(0,En.mk 0 (some 0) (Obj.arr 34 false (List.map aP bL))),(1,En.mk 0 (some 1) (Obj.box 3 [P.d (D.int IntKind.i64 cA)]))]))/\((∀(j:Nat) (hj:j<List.length bL),lJ cA bL[j]=false)->post (P.d (D.int IntKind.i64 (-1:Int)),[(0,En.mk 0 (some 0) (Obj.arr 34 false (List.map aP bL))),(1,En.mk 0 (some 1) (Obj.box 3 [P.d (D.int IntKind.i64 cA)]))])))=(aH [] [(2,ae (aK 96 2) qbE)] 96 [.sl 0 0 m.length,CL] (Qz m r)) post:=by kernel_rfl
def qbG:bm:=fun ps R post=> ∃m r,ps=[.sl 0 0 m.length,CL]/\R=Qz m r/\m.length<=1000000/\(∀(i:Int) (hi:i.toNat<m.length),0<=i->lJ r m[i.toNat]=true->(∀j (hj:j<i.toNat),lJ r (m[j]'(by omega))=false)->post (iD i,Qz m r))/\((∀j (hj:j<m.length),lJ r m[j]=false)->post (iD (-1),Qz m r))
abbrev dlH (q:List aj) (n:Nat) (r i k:Int):S:=⟨42,[(0,.sl 0 0 n),(1,CL),(5,iD i),(6,iD k)],Qz q r⟩
def QA (k:Int) (n:Nat):Bool:=decide (k<(↑n:Int))
theorem qgC (q:List aj) (n:Nat) (r i k:Int) (post:PX×S->Prop):(bif QA k n then bif nN k n then bif gS k q then bif c8 q k then∃(x:aj) (cA:Int),Z74 q k x/\Z75 r=Z75 cA/\bif !lJ cA x then bif nN i n then bif gS i q then bif c8 q i then bif Zj i then bif Zj k then post (PX.normal,S.mk 42 (qJ n::VC::(5,P.d (Zm i))::Zy k) ((0,En.mk 0 (some 0) (Obj.arr (34:TypeId) false (List.set (cK q) (Zg i) (D.aY (D.agg (uE q i)) (uE q k)))))::MK cA)) else False else False else False else False else False else bif Zj k then post (PX.normal,S.mk 42 (qJ n::VC::MH i::Zy k) (Cv q::MK cA)) else False else False else False else False else post (PX.exit 0,S.mk 42 [qJ n,VC,MH i] (Cv q::MK r)))=(aF [(63,E1)] [] 62 5 (dlH q n r i k)) post:=by kernel_rfl
def yc (r:Int) (x:aj):Bool:=x.s.2==r
abbrev dlE (q:List aj) (n:Nat) (r i:Int):PX×S:=(.exit 0,⟨42,[(0,.sl 0 0 n),(1,CL),(5,iD i)],Qz q r⟩)
structure qbH (m:List aj) (r i k:Int):Prop where
 len:m.length<=1000000
 i0:0<=i
 ik:k=i+1
 kl:k<=m.length
 eq:(m.take k.toNat).filter (yc r)=m.take i.toNat
def gDl:S->K (PX×S):=fun s post=> ∃m r i k,s=dlH m m.length r i k/\qbH m r i k/\ ∀(o:List aj) (i':Int),o=m.filter (yc r)->i'=o.length->o.length<=m.length->post (dlE (o++m.drop o.length) m.length r i')
theorem qeA (m:List aj) (r:Int) (post:P×List (Nat×En)->Prop):(∃(bL:List aj),∃(cA:Int),[P.sl 0 0 (List.length m),P.fn 63 [P.ref 1 0 0]]=[P.sl 0 0 (List.length bL),P.fn 63 [P.ref 1 0 0]]/\[(0,En.mk 0 (some 0) (Obj.arr 34 false (List.map aP m))),(1,En.mk 0 (some 1) (Obj.box 3 [P.d (D.int IntKind.i64 r)]))]=[(0,En.mk 0 (some 0) (Obj.arr 34 false (List.map aP bL))),(1,En.mk 0 (some 1) (Obj.box 3 [P.d (D.int IntKind.i64 cA)]))]/\List.length bL<=1000000/\(∀(i:Int) (hi:Int.toNat i<List.length bL),(0:Int)<=i->lJ cA bL[Int.toNat i]=true->(∀(j:Nat) (hj:j<Int.toNat i),lJ cA bL[j]=false)->bif i==(-1:Int) then post (P.sl 0 0 (List.length m),[(0,En.mk 0 (some 0) (Obj.arr 34 false (List.map aP bL))),(1,En.mk 0 (some 1) (Obj.box 3 [P.d (D.int IntKind.i64 cA)]))]) else bif decide ((-9223372036854775808:Int)<=i+(1:Int)/\i+(1:Int)<=(9223372036854775807:Int)) then∃(LI:List aj),∃(r:Int),∃(aJ:Int),∃(k:Int),S.mk 42 [(0,P.sl 0 0 (List.length m)),(1,P.fn 63 [P.ref 1 0 0]),(5,P.d (D.int IntKind.i64 i)),(6,P.d (D.int IntKind.i64 (i+(1:Int))))] [(0,En.mk 0 (some 0) (Obj.arr 34 false (List.map aP bL))),(1,En.mk 0 (some 1) (Obj.box 3 [P.d (D.int IntKind.i64 cA)]))]=S.mk 42 [(0,P.sl 0 0 (List.length LI)),(1,P.fn 63 [P.ref 1 0 0]),(5,P.d (D.int IntKind.i64 aJ)),(6,P.d (D.int IntKind.i64 k))] [(0,En.mk 0 (some 0) (Obj.arr 34 false (List.map aP LI))),(1,En.mk 0 (some 1) (Obj.box 3 [P.d (D.int IntKind.i64 r)]))]/\qbH LI r aJ k/\ ∀(o:List aj) (i':Int),o=List.filter (yc r) LI->i'=(↑(List.length o):Int)->List.length o<=List.length LI->bif decide ((0:Int)<=i'/\i'<=(↑(List.length LI):Int)) then bif decide (Int.toNat i'+(List.length LI-Int.toNat i')<=List.length (List.map aP (o++List.drop (List.length o) LI))) then bif decide ((0:Int)<=i'/\i'<=(↑(List.length LI):Int)) then post (P.sl 0 0 (Int.toNat i'),[(0,En.mk 0 (some 0) (Obj.arr 34 false (List.take (Int.toNat i') (List.map aP (o++List.drop (List.length o) LI))++List.replicate (List.length LI-Int.toNat i') (D.agg [D.int IntKind.i64 (0:Int),D.int IntKind.i64 (0:Int),D.int IntKind.i64 (0:Int),D.gu,D.int IntKind.i64 (0:Int),D.int IntKind.i64 (0:Int),D.gu])++List.drop (Int.toNat i'+(List.length LI-Int.toNat i')) (List.map aP (o++List.drop (List.length o) LI))))),(1,En.mk 0 (some 1) (Obj.box 3 [P.d (D.int IntKind.i64 r)]))]) else False else False else False else False)/\((∀(j:Nat) (hj:j<List.length bL),lJ cA bL[j]=false)->post (P.sl 0 0 (List.length m),[(0,En.mk 0 (some 0) (Obj.arr 34 false (List.map aP bL))),(1,En.mk 0 (some 1) (Obj.box 3 [P.d (D.int IntKind.i64 cA)]))])))=(aH [(96,qbG)] [(5,ae (aK 62 5) gDl)] 62 [.sl 0 0 m.length,CL] (Qz m r)) post:=by kernel_rfl
def hDl:bm:=fun ps R post=> ∃m r,ps=[.sl 0 0 m.length,CL]/\R=Qz m r/\m.length<=1000000/\ ∀(o:List aj) (tl:List D),o=m.filter (yc r)->post (.sl 0 0 o.length,[(0,⟨0,some 0,.arr 34 false (o.map aP++tl)⟩),bxN 1 r])
def gtK (a b:ax):Bool:=qC b a
def HK:bm:=Jl 65 34 aP (fun g:aj=>g.s) gtK
def Z7a (o:List aj) (tl:List D):List (Nat×En):=[(0,En.mk 0 (some 0) (Obj.arr (34:TypeId) false (cK o++tl)))]
def Z79 (m:List aj):List P:=[lM m,P.fn (63:FuncId) [iM]]
theorem qeB (l:List aj) (r:Int) (post:P×List (Nat×En)->Prop):(∃(ar:List aj),qb l ar/\Zw/\jc ar/\ ∀(m:List aj),m=az ar-> ∃(bL:List aj) (cA:Int),Z79 m=Z79 bL/\Cv m::MK r=Cv bL::MK cA/\mA bL/\ ∀(o:List aj) (tl:List D),o=List.filter (yc cA) bL-> ∃(l:List aj) (qeC:List D),[lM o,P.fn (65:FuncId) []]=[lM l,P.fn (65:FuncId) []]/\Z7a o tl=Z7a l qeC/\mA l/\ ∀(l':List aj),List.Perm l' l->List.Pairwise (fun(a b:aj)=>gtK (aj.s b) (aj.s a)=false) l'->post (P.fn (101:FuncId) [bQ],[(0,En.mk 0 none (Obj.box (22:TypeId) [P.d (D.sl 7 (List.take (dm o) (cK l'++qeC)))]))]))=(aH [(30,ma),(62,hDl),(64,HK)] [] 36 [bO l,iD r] []) post:=by kernel_rfl
def QB:bm:=fun ps R post=> ∃l r,ps=[bO l,iD r]/\R=[]/\jc l/\ ∀o,o=xQ (az l) r->post (.fn 101 [.ref 0 0 0],[(0,⟨0,none,.box 22 [.d (.sl 7 (o.map aP))]⟩)])
def qeD:bm:=fun ps R post=> ∃a b:aj,ps=[.d (aP a),.d (aP b)]/\R=[]/\post (iD (oW b.s.1 b.s.2 a.s.1 a.s.2),[])
theorem qbI (a b:aj) (post:P×List (Nat×En)->Prop):(∃(t:Int) (r:Int) (t':Int) (r':Int),Le b::I7 a=Hg t r t' r'/\Zw/\post (P.d (D.int IntKind.i64 (oW t r t' r')),[]))=(aH [(66,tu)] [] 65 [.d (aP a),.d (aP b)] []) post:=by kernel_rfl
end Pi
namespace Pi
open Go Go.Proofs
set_option maxRecDepth 100000
theorem yd {α:Type} {f:α->D} (hf: ∀{a b},f a=f b->a=b) {l m:List α} (h:l.map f=m.map f):l=m:=(List.map_inj_right (f:=f) (fun _ _=>hf)).1 h
theorem qeE {a b:ax} (h:aX a=aX b):a=b:=by
 obtain⟨a1,a2⟩:=a
 obtain⟨b1,b2⟩:=b
 unfold aX iE at h
 simp only[D.agg.injEq,List.cons.injEq,D.int.injEq,true_and,and_true] at h
 rw[h.1,h.2]
theorem X3 {a b:aC} (h:bH a=bH b):a=b:=by
 obtain⟨a1,a2,a3⟩:=a
 obtain⟨b1,b2,b3⟩:=b
 unfold bH at h
 simp only[D.agg.injEq,List.cons.injEq,D.int.injEq,true_and,and_true] at h
 rw[h.1,h.2.1,h.2.2]
theorem qbJ {l m:List Int} (h:bx l=bx m):l=m:=yd (f:=D.int .i64) (fun h=>by cases h;rfl) h
theorem qeF {a b:a7} (h:gM a=gM b):a=b:=by
 obtain⟨k,⟨n1,n2,n3⟩,⟨p1,p2,p3⟩,nm,dr,ds,⟨a1,a2,a3⟩,⟨e1,e2,e3⟩,tx,es⟩:=a
 obtain⟨k',⟨n1',n2',n3'⟩,⟨p1',p2',p3'⟩,nm',dr',ds',⟨a1',a2',a3'⟩,⟨e1',e2',e3'⟩,tx',fh⟩:=b
 unfold gM iE at h
 simp only[D.agg.injEq,List.cons.injEq,D.int.injEq,D.str.injEq,D.bool.injEq,D.sl.injEq,true_and,and_true] at h
 obtain⟨rfl,rfl,rfl,rfl,rfl,rfl,rfl,rfl,rfl,h1,rfl,rfl,rfl,rfl,rfl,rfl,rfl,h2⟩:=h
 rw[yd qeE h1,yd X3 h2]
theorem X4 {a b:aj} (h:aP a=aP b):a=b:=by
 obtain⟨⟨s1,s2⟩,n,d,⟨u1,u2⟩,o⟩:=a
 obtain⟨⟨s1',s2'⟩,n',d',⟨u1',u2'⟩,o'⟩:=b
 unfold aP iE at h
 simp only[D.agg.injEq,List.cons.injEq,D.int.injEq,D.sl.injEq,true_and,and_true] at h
 obtain⟨rfl,rfl,rfl,h1,rfl,rfl,h2⟩:=h
 rw[qbJ h1,yd qeF h2]
noncomputable def qbK (d:D):aj:=by
 classical exact if h: ∃g,aP g=d then h.choose else⟨(0,0),0,[],(0,0),[]⟩
theorem QC (g:aj):qbK (aP g)=g:=by
 have h: ∃x,aP x=aP g:=⟨g,rfl⟩
 unfold qbK
 rw[dif_pos h]
 exact X4 h.choose_spec
theorem pn (r:Int) (x:aj):yc r x= !lJ r x:=by
 unfold yc lJ bne
 rw[Bool.not_not]
theorem qbL:FC 65 qeD:=FC.mk (H:=[(66,tu)]) (by kernel_rfl) (.cons Xv .nil) (by
 intro ps R post hh
 obtain⟨a,b,rfl,rfl,hp⟩:=hh
 (rw[<-qbI];delta Zw Zs ZC Hg ic fO ie gb Le I7)
 exact⟨_,_,_,_,rfl,rfl,hp⟩)
theorem vN {m o:List aj} (h:o.length<=m.length):(o++m.drop o.length).length=m.length:=by simp;omega
theorem VD {m o:List aj} {k:Nat} (hk:k<m.length) (h:o.length<=k):(o++m.drop o.length)[k]'(by rw[vN (by omega)];exact hk)=m[k]:=by
 rw[List.getElem_append_right h,List.getElem_drop]
 congr 1
 omega
theorem VE {m o:List aj} {x:aj} (h:o.length<m.length):(o++m.drop o.length).set o.length x=(o++[x])++m.drop (o++[x]).length:=by
 rw[List.set_append_right _ _ (Nat.le_refl _),Nat.sub_self,List.append_assoc]
 congr 1
 rw[List.drop_eq_getElem_cons h,List.set_cons_zero]
 simp
theorem Jw {m o:List aj} {k:Nat} (hk:k<m.length) (h:o.length<=k):D.nth ((o++m.drop o.length).map aP) k=aP m[k]:=by
 rw[ay _ _ _ (by rw[vN (by omega)];exact hk),VD hk h]
section
variable {X:XF}
theorem QD:FD X 63 E1:=FD.mk (H:=[]) (hk:=[]) (by kernel_rfl) .nil .nil (by
 intro ps R post hh
 obtain⟨x,r,rfl,rfl,hp⟩:=hh
 rw[<-qbD]
 exact hp)
theorem VF:LD X 96 2 (ae (aK 96 2) qbE):=
 LD.find (H:=[(63,E1)]) (hk:=[]) (by kernel_rfl) (by kernel_rfl) (.cons QD .nil) .nil
  (A:=List aj×Int) (fun a k=>ixO a.1 a.2 (a.1.length:Int) k) (·.1) (fun a _ x=>lJ a.2 x) (fun a=>a.1.length<=1000000) (fun a i=>oxO a.1 a.2 i) (fun a=>oxE a.1 a.2) (fun _ _ h=>by cases h) (fun _ h=>by cases h)
  (by
   rintro⟨m,r⟩ k post eb hm h0 hk ht hf
   dsimp only at*
   (rw[<-X2];delta Zm rC Zs tI Za Z9 Zj Zu MK cK Cv vH C6 iM VC dm lM kR Z75 ia ib ic fO ie gb l8 bQ Zg fQ lG mz uE Z74 c8 gO gS jq ZG)
   have e1:D.nth (m.map aP) k.toNat=aP m[k.toNat]:=ay _ _ _ eb
   rw[e1]
   simp only[List.length_map]
   refine bV hk (ak ⟨h0,hk⟩ (ak eb (aq (df _) ⟨m[k.toNat],r,rfl,rfl,aw (fun h=>ht h) fun h=>ak (by omega) (hf h)⟩))))
  (by
   rintro⟨m,r⟩ k post hm hk hp
   dsimp only at*
   (rw[<-X2];delta Zm rC Zs tI Za Z9 Zj Zu MK cK Cv vH C6 iM VC dm lM kR Z75 ia ib ic fO ie gb l8 bQ Zg fQ lG mz uE Z74 c8 gO gS jq ZG)
   exact nv (by omega) hp)
  (by
   rintro s post ⟨m,r,rfl,hm,h1,h2⟩
   exact⟨(m,r),rfl,hm,h1,h2⟩)
theorem qeG:FD X 96 qbG:=FD.mk (H:=[]) (hk:=[(2,ae (aK 96 2) qbE)]) (by kernel_rfl) .nil (.cons VF .nil) (by
 intro ps R post hh
 obtain⟨m,r,rfl,rfl,hm,h1,h2⟩:=hh
 rw[<-qbF]
 exact⟨m,r,rfl,hm,h1,h2⟩)
theorem qbM:LD X 62 5 (ae (aK 62 5) gDl):=
 LD.par (H:=[(63,E1)]) (hk:=[]) (by kernel_rfl) (by kernel_rfl) (.cons QD .nil) .nil
  (A:=List aj×Int) (B:=List aj×Int×Int) (fun a b=>dlH (b.1++a.1.drop b.1.length) a.1.length a.2 b.2.1 b.2.2)
  (fun a b=>a.1.length<=1000000/\b.1=(a.1.take b.2.2.toNat).filter (yc a.2)/\b.2.1=(b.1.length:Int)/\0<=b.2.2/\b.2.2.toNat<=a.1.length)
  (fun a b=>((a.1.length:Int)-b.2.2).toNat)
  (fun a x=> ∃(o:List aj) (i:Int),o=a.1.filter (yc a.2)/\i=(o.length:Int)/\o.length<=a.1.length/\x=dlE (o++a.1.drop o.length) a.1.length a.2 i)
  (by
   rintro⟨m,r⟩ ⟨o,i,k⟩ ⟨hm,ho,hi,h0,hk⟩
   dsimp only at*
   have nM:o.length<=k.toNat:=by
    rw[ho]
    refine Nat.le_trans (List.length_filter_le _ _) ?_
    simp
    omega
   (rw[<-qgC];delta cK Cv Zs MH Zu MK Zg fQ lG mz uE Zm Zy iM VC Zz qJ Za Z9 Zj Z75 ia ib ic fO ie gb l8 bQ Z74 c8 gO gS nN QA)
   refine bJ (fun hp=> ?_) fun hp=> ?_
   ·have bc:k.toNat<m.length:=by omega
    have kK:=pk bc (yc r)
    have DE:=vN (m:=m) (o:=o) (by omega)
    have e1:D.nth ((o++m.drop o.length).map aP) k.toNat=aP m[k.toNat]:=Jw bc nM
    have gU:=fun x:aj=>VE (m:=m) (o:=o) (x:=x) (by omega)
    have hit:i.toNat=o.length:=by omega
    have hib:0<=i/\i<(m.length:Int):=⟨by omega,by omega⟩
    have hif:(-9223372036854775808:Int)<=i+1/\i+1<=9223372036854775807:=by omega
    have fG:(-9223372036854775808:Int)<=k+1/\k+1<=9223372036854775807:=by omega
    have e2:D.nth ((o++m.drop o.length).map aP) i.toNat=aP m[i.toNat]:=Jw (by omega) (by omega)
    rw[e1,e2]
    generalize m[k.toNat]=g at*
    generalize m[i.toNat]=y at*
    have w1: ∀x y:aj,D.aY (D.agg [D.int .i64 (D.ah (D.ao (aP x) 0)),D.int .i64 (D.ah (D.ao (aP x) 1)),D.int .i64 (D.ah (D.ao (aP x) 2)),D.sl 1 (D.ez (D.ao (aP x) 3)),D.int .i64 (D.ah (D.ao (aP x) 4)),D.int .i64 (D.ah (D.ao (aP x) 5)),D.sl 18 (D.ez (D.ao (aP x) 6))]) [D.int .i64 (D.ah (D.ao (aP y) 0)),D.int .i64 (D.ah (D.ao (aP y) 1)),D.int .i64 (D.ah (D.ao (aP y) 2)),D.sl 1 (D.ez (D.ao (aP y) 3)),D.int .i64 (D.ah (D.ao (aP y) 4)),D.int .i64 (D.ah (D.ao (aP y) 5)),D.sl 18 (D.ez (D.ao (aP y) 6))]=aP y:=fun _ _=>rfl
    rw[w1,hit,<-List.map_set,gU]
    simp only[List.length_map,DE]
    refine ak ⟨h0,hp⟩ (ak bc (aq (df _) ⟨g,r,rfl,rfl,aw (fun h=> ?_) fun h=> ?_⟩))
    ·refine ak hib (ak (by omega) (aq (df _) (ak hif (ak fG ?_))))
     refine⟨((m.length:Int)-(k+1)).toNat,by omega,(o++[g],i+1,k+1),rfl,⟨hm,?_,?_,by show 0<=k+1;omega,by show(k+1).toNat<=m.length;omega⟩,rfl⟩
     ·show o++[g]=_
      rw[show(k+1).toNat=k.toNat+1 by omega,kK,if_pos (by rw[pn];exact h),ho]
     ·show i+1=((o++[g]).length:Int)
      rw[List.length_append]
      simp
      exact hi
    ·refine ak fG ?_
     refine⟨((m.length:Int)-(k+1)).toNat,by omega,(o,i,k+1),rfl,⟨hm,?_,hi,by show 0<=k+1;omega,by show(k+1).toNat<=m.length;omega⟩,rfl⟩
     show o=_
     rw[show(k+1).toNat=k.toNat+1 by omega,kK,if_neg (by rw[pn,h];simp),List.append_nil]
     exact ho
   ·refine⟨o,i,?_,hi,by omega,rfl⟩
    rw[ho,List.take_of_length_le (by omega)])
  (by
   rintro s post ⟨m,r,i,k,rfl,hq,hp⟩
   have zX:=hq.kl
   have h0:=hq.i0
   have Fx:=hq.ik
   have hl:(m.take i.toNat).length=i.toNat:=by rw[List.length_take];omega
   refine⟨(m,r),(m.take i.toNat,i,k),?_,⟨hq.len,hq.eq.symm,?_,by show 0<=k;omega,by show k.toNat<=m.length;omega⟩,?_⟩
   ·dsimp only
    rw[hl,List.take_append_drop]
   ·show i=_
    rw[hl]
    omega
   ·rintro x ⟨o,i',h1,h2,h3,rfl⟩
    exact hp o i' h1 h2 h3)
theorem qeH {m:List aj} {r:Int} (h: ∀j (hj:j<m.length),lJ r m[j]=false):m.filter (yc r)=m:=by
 rw[List.filter_eq_self]
 intro x hx
 obtain⟨j,hj,rfl⟩:=List.getElem_of_mem hx
 rw[pn,h j hj]
 rfl
theorem VG {m:List aj} {r i:Int} (hm:m.length<=1000000) (hi:i.toNat<m.length) (h0:0<=i) (ht:lJ r m[i.toNat]=true) (hb: ∀j (hj:j<i.toNat),lJ r (m[j]'(by omega))=false):qbH m r i (i+1):=by
 refine⟨hm,h0,rfl,by omega,?_⟩
 rw[show(i+1).toNat=i.toNat+1 by omega,pk hi,if_neg (by rw[pn,ht];simp),List.append_nil,List.filter_eq_self]
 intro x hx
 obtain⟨j,hj,rfl⟩:=List.mem_take_iff_getElem.1 hx
 rw[pn,hb j (by omega)]
 rfl
theorem qgD:FD X 62 hDl:=FD.mk (H:=[(96,qbG)]) (hk:=[(5,ae (aK 62 5) gDl)]) (by kernel_rfl) (.cons qeG .nil) (.cons qbM .nil) (by
 intro ps R post hh
 obtain⟨m,r,rfl,rfl,hm,hp⟩:=hh
 rw[<-qeA]
 refine⟨m,r,rfl,rfl,hm,fun i hi h0 ht hb=>U6 (fun h=>by omega) fun _=>ak (by omega) ⟨m,r,i,i+1,rfl,VG hm hi h0 ht hb,fun o i' ho sW nM=> ?_⟩,fun h=> ?_⟩
 ·have hit:i'.toNat=o.length:=by omega
  refine ak (by omega) (ak (by rw[hit,List.length_map,vN nM];omega) (ak (by omega) ?_))
  rw[hit,List.map_append,List.take_left' (by simp),List.append_assoc]
  exact hp o _ ho
 ·have:=hp m [] (qeH h).symm
  rwa [List.append_nil] at this)
theorem VH:FD X 64 HK:=PD (dec:=qbK) (c:=fun a b=>oW b.s.1 b.s.2 a.s.1 a.s.2)
 (FD.TI Tryz.func64 (by kernel_rfl) (by kernel_rfl) fun ps R post h=>uu h) (fun x=>QC x) HE (fun x y=>(Cg y.s x.s).lt) (fun _=>⟨_,rfl⟩)
 (fun x y=>FC.qd0 qbL ⟨x,y,rfl,rfl,rfl⟩) ⟨_,Tryz.func65,by kernel_rfl,by kernel_rfl⟩
theorem X5:FD X 36 QB:=FD.mk (H:=[(30,ma),(62,hDl),(64,HK)]) (hk:=[]) (by kernel_rfl) (.cons Jn (.cons qgD (.cons VH .nil))) .nil (by
 intro ps R post hh
 obtain⟨l,r,rfl,rfl,hs,hp⟩:=hh
 (rw[<-qeB];delta cK dm bQ Z7a lM mA Zs Zu MK Cv iM Z79 Zw fR qb)
 have qp:=cv l
 have pX:=hs.1
 refine⟨l,rfl,rfl,hs,fun m hm=>⟨m,r,rfl,rfl,by rw[hm];omega,fun o tl ho=>⟨o,tl,rfl,rfl,?_,fun l' EU hpw=> ?_⟩⟩⟩
 ·rw[ho,hm]
  exact Nat.le_trans (List.length_filter_le _ _) (by omega)
 ·have e:l'=xQ (az l) r:=Ji (gN l) (by rw[<-hm];exact ho▸EU) hpw
  rw[<-EU.length_eq,List.take_left' (by simp)]
  exact hp l' e)
end
end Pi
namespace Pi
open Go Go.Proofs
set_option maxRecDepth 100000
set_option maxHeartbeats 0
abbrev VI (l:List ax) (s:ax) (k:Int):S:=⟨19,[(0,fE l),(3,.ref 0 0 0),(7,iD ((l.map aX).length:Int)),(8,iD k)],[(0,⟨0,none,.box 30 [iD s.1,iD s.2]⟩)]⟩
def LJ (l:List ax):Nat×P:=(0,kG l)
theorem QE (l:List ax) (s:ax) (k:Int) (post:PX×S->Prop):(bif Mz k l then bif I8 k l then bif vG l k then bif Prod.fst s==EE l k&&(Prod.snd s==FB l k&&true) then post (PX.ret,S.mk 19 (C6 k) []) else bif Zj k then post (PX.normal,S.mk 19 (LJ l::dG::(7,P.d (D.int IntKind.i64 (zj l)))::rC k) (EW s)) else False else False else False else post (PX.exit 0,S.mk 19 [] []))=(aF [] [] 69 2 (VI l s k)) post:=by kernel_rfl
def qbN:S->K (PX×S):=fun st post=> ∃l s,st=VI l s 0/\l.length<=1000000/\(∀i:Int,i=ja (fun x=>x==s) l->0<=i->post (.ret,⟨19,[(4,iD i)],[]⟩))/\(ja (fun x=>x==s) l= -1->post (.exit 0,⟨19,[],[]⟩))
def Z7c (l:List ax) (s:ax):S:=S.mk 19 (LJ l::dG::(7,P.d (D.int IntKind.i64 (zj l)))::MI) (EW s)
theorem qeI (l:List ax) (s:ax) (post:P×List (Nat×En)->Prop):(∃(ar:List ax) (hZ:ax),Z7c l s=Z7c ar hZ/\nz ar/\(∀(i:Int),i=ja (fun(x:ax)=>x==hZ) ar->(0:Int)<=i->post (P.d (Zs i),[]))/\(ja (fun(x:ax)=>x==hZ) ar=(-1:Int)->n9 post))=(aH [] [(2,ae (aK 69 2) qbN)] 69 [fE l,.d (aX s)] []) post:=by kernel_rfl
def qbO:bm:=fun ps R post=> ∃l s,ps=[fE l,.d (aX s)]/\R=[]/\l.length<=1000000/\ ∀i,i=ja (fun x=>x==s) l->post (iD i,[])
theorem qeJ (l:List ax) (s:ax) (post:P×List (Nat×En)->Prop):(∃(ar:List ax) (hZ:ax),kG l::nq s=kG ar::nq hZ/\Zw/\nz ar/\ ∀(i:Int),i=ja (fun(x:ax)=>x==hZ) ar->post (P.d (D.bool (Z2 i)),[]))=(aH [(69,qbO)] [] 38 [fE l,.d (aX s)] []) post:=by kernel_rfl
def E2:bm:=fun ps R post=> ∃l s,ps=[fE l,.d (aX s)]/\R=[]/\l.length<=1000000/\ ∀b,b=decide (s∈l)->post (.d (.bool b),[])
def HL:bm:=fun ps R post=> ∃l,ps=[bO l]/\R=[]/\jc l/\ ∀o,o=Jj l->post (.sl 0 0 o.length,[(0,⟨0,none,nV false o⟩)])
abbrev CM:Nat:=101
abbrev kpU:Option (List Nat×List Nat):=some ([4,5,6],[4,5,6])
abbrev vlR (own:List aj):List (Nat×En):=[(0,⟨0,some 1,.dX⟩),(1,⟨0,some 0,.box 22 [bO own]⟩)]
abbrev yz (own:List aj) (i:Int):S:=⟨16,[(0,.mp 0 0),(1,.ref 1 0 0),(5,bO own),(6,iD ((own.map aP).length:Int)),(7,iD i)],vlR own⟩
abbrev SE (own:List aj):S:=⟨16,[(0,.mp 0 0),(1,.ref 1 0 0)],vlR own⟩
abbrev SF (z:Bool) (on:List ax) (x:ax) (e:Int):S:=⟨27,[(4,.ref 0 0 0),(5,.ref 1 0 0),(6,.ref 2 0 0)],[(0,⟨0,none,.box 30 [iD x.1,iD x.2]⟩),(1,⟨0,none,.box 35 [iD e]⟩),(2,⟨0,none,.box 51 [.sl 3 0 on.length]⟩),(3,⟨0,none,nV z on⟩)]⟩
def SG (own:List aj):List (Nat×En):=[(0,En.mk 0 (some 1) Obj.dX),(1,En.mk 0 (some 0) (Obj.box (22:TypeId) [fR own]))]
def SH:Nat×P:=(0,P.mp 0 0)
def HM (own:List aj):S:=S.mk 16 [SH,(1,iM)] (SG own)
def Jx (on:List ax):Nat×En:=(3,qK on)
def ye (on:List ax):Nat×En:=(2,En.mk 0 none (Obj.box (51:TypeId) [P.sl 3 0 (dV on)]))
def LK:En:=En.mk 0 none (Obj.box (35:TypeId) ZY)
def yf:Nat×En:=(1,LK)
def HO:Nat×P:=(6,P.ref 2 0 0)
def HP:Nat×P:=(5,iM)
def X6:List (Nat×P):=[jR,HP,HO]
def Z7u (on:List ax):PX×S:=(PX.normal,S.mk 27 X6 [pj,yf,ye on,Jx on])
def QF (own:List aj) (i:Int):S:=S.mk 16 (SH::(1,iM)::(5,fR own)::(6,Cu own)::ZJ i) (SG own)
def VJ (on:List ax):Nat×En:=(3,En.mk 0 none (Obj.arr (30:TypeId) true (List.map aX on)))
def Z7r (on:List ax):PX×S:=(PX.normal,S.mk 27 X6 [pj,yf,ye on,VJ on])
def LL (own:List aj) (i:Int):Nat×En:=(0,En.mk 0 none (Obj.box (30:TypeId) [P.d (mz own i),P.d (lG own i)]))
def LM (b:Bool) (l:List ax) (s:ax):Prop:=b=decide (s∈l)
def Z7s (on:List ax) (own:List aj) (i:Int) (post:PX×S×PX×S->Prop):Prop:= ∃(l:List ax) (s:ax),P.d (D.sl 2 (List.take (dV on) (List.map aX on)))::Cw own i=kG l::nq s/\Zw/\nz l/\ ∀(b:Bool),LM b l s->bif b then post (PX.ret,HM own,PX.ret,S.mk 27 X6 [LL own i,yf,ye on,VJ on]) else bif Zj i then post (PX.normal,QF own i,Z7r on) else False
def FI (own:List aj) (i:Int):Bool:=D.ah (D.ao (fQ own i) 4)==(0:Int)&&(D.ah (D.ao (fQ own i) 5)==(0:Int)&&true)
theorem qgE (own:List aj) (on:List ax) (i:Int) (post:PX×S×PX×S->Prop):(bif u7 i own then bif pc i own then bif c8 own i then bif FI own i then Z7s on own i post else bif Zj i then post (PX.normal,QF own i,Z7u on) else False else False else False else post (PX.exit 0,HM own,Z7u on))=(lg [(38,E2)] [] 19 4 2000000 kpU 1 CM 1 (yz own i,(.normal,SF false on (0,0) 0))) post:=by kernel_rfl
theorem qgF (own:List aj) (on:List ax) (i:Int) (post:PX×S×PX×S->Prop):(bif u7 i own then bif pc i own then bif c8 own i then bif FI own i then Z7s on own i post else bif Zj i then post (PX.normal,QF own i,Z7r on) else False else False else False else post (PX.exit 0,HM own,Z7r on))=(lg [(38,E2)] [] 19 4 2000000 kpU 1 CM 1 (yz own i,(.normal,SF true on (0,0) 0))) post:=by kernel_rfl
def gUn:xW:=fun y post=> ∃own on,(own.length<=1000000/\on.length<=1000000)/\y=(yz own 0,(.normal,SF false on (0,0) 0))/\
 (∀z s,bZ on own=some s->post (.ret,SE own,(.ret,SF z on s 0)))/\(∀z,bZ on own=none->post (.exit 0,SE own,(.normal,SF z on (0,0) 0)))
abbrev unA (l own:List aj) (on:List ax) (r:Int):S:=⟨27,[(0,bO l),(1,iD r),(4,.ref 1004 0 0),(5,.ref 1005 0 0),(6,.ref 1006 0 0),(8,bO l),(9,.sl 1009000 0 on.length),(10,bO l),(11,iD r),(12,.fn CM [.ref 1012000 0 0])],
 [(1004,⟨0,none,.box 30 [iD 0,iD 0]⟩),(1005,⟨0,none,.box 35 [iD 0]⟩),(1006,⟨0,none,.box 51 [.sl 1009000 0 on.length]⟩),(1006000,⟨0,none,.arr 30 false []⟩),(1009000,⟨0,none,nV false on⟩),(1012000,⟨0,none,.box 22 [bO own]⟩)]⟩
def Z7w (z:Bool) (aI:List ax):Nat×En:=(3,En.mk 0 none (Obj.arr (30:TypeId) z (List.map aX aI)))
def Z7v (own:List aj):S:=S.mk 16 (SH::(1,iM)::(5,fR own)::(6,Cu own)::ZZ) (SG own)
theorem qgG (l own:List aj) (on:List ax) (r:Int) (post:PX×S->Prop):(∃(qL:List aj) (aI:List ax),(mA qL/\nz aI)/\(Z7v own,Z7u on)=(Z7v qL,Z7u aI)/\(∀(z:Bool) (s:ax),bZ aI qL=some s->post (PX.ret,S.mk 27 X6 [vK s,yf,ye aI,Z7w z aI]))/\ ∀(z:Bool),bZ aI qL=none->post (PX.normal,S.mk 27 X6 [pj,yf,ye aI,Z7w z aI]))=(vJ [] [] (fun fi yt=>if Nat.beq fi CM&&Nat.beq yt 1 then [(1,dR (aK CM 1) gUn)] else []) 19 4 2000000 kpU (unA l own on r)) post:=by kernel_rfl
def qbP:S->K (PX×S):=fun s post=> ∃l own on r,s=unA l own on r/\(own.length<=1000000/\on.length<=1000000)/\(∀z s,bZ on own=some s->post (.ret,SF z on s 0))/\(∀z,bZ on own=none->post (.normal,SF z on (0,0) 0))
def stO (a:ax×Int):P:= .da [.d (aX a.1),iD a.2]
def VK (post:P×List (Nat×En)->Prop):Prop:=post (P.da [P.d (D.agg [Z7,Z7]),P.d (D.int IntKind.i64 (200:Int))],[])
def X7 (post:P×List (Nat×En)->Prop) (s:ax):Prop:=post (P.da (P.d (mr s)::ZY),[])
def Z7y (aQ:List aj):En:=En.mk 0 none (Obj.box (22:TypeId) [fR aQ])
def Z7z (l:List aj) (r:Int) (o:List ax) (aQ:List aj):S:=S.mk 27 [lH l,ZD r,(4,P.ref 1004 0 0),(5,P.ref 1005 0 0),(6,P.ref 1006 0 0),(8,fR l),(9,P.sl 1009000 0 (dV o)),(10,fR l),(11,P.d (Zs r)),(12,P.fn (101:FuncId) [P.ref 1012000 0 0])] [(1004,p9),(1005,LK),(1006,En.mk 0 none (Obj.box (51:TypeId) [P.sl 1009000 0 (dV o)])),(1006000,xZ),(1009000,qK o),(1012000,Z7y aQ)]
def E3 (l:List aj) (r:Int) (gq:List aj) (cA:Int):Prop:=fR l::Zu r=fR gq::Zu cA
theorem qgH (l:List aj) (r:Int) (post:P×List (Nat×En)->Prop):(∃(ar:List aj),qb l ar/\Zw/\jc ar/\ ∀(o:List ax),o=Jj ar-> ∃(gq:List aj) (cA:Int),E3 l r gq cA/\Zw/\jc gq/\ ∀(aQ:List aj),aQ=xQ (az gq) cA-> ∃(vf:List aj) (own:List aj) (on:List ax) (Xt:Int),Z7z l r o aQ=Z7z vf Xt on own/\(mA own/\nz on)/\(∀(_:Bool) (s:ax),bZ on own=some s->X7 post s)/\ ∀(_:Bool),bZ on own=none->VK post)=(rv [(36,QB)] [(35,HL)] [(500004,qbP)] 19 [bO l,iD r] []) post:=by kernel_rfl
end Pi
namespace Pi
open Go Go.Proofs
set_option maxRecDepth 100000
theorem qeK (s x:ax):(s.1==x.1&&(s.2==x.2&&true))=(x==s):=by
 rw[Bool.eq_iff_iff]
 obtain⟨a,b⟩:=s
 obtain⟨c,d⟩:=x
 simp
 omega
section
variable {X:XF}
theorem VL:LD X 69 2 (ae (aK 69 2) qbN):=
 LD.find (H:=[]) (hk:=[]) (by kernel_rfl) (by kernel_rfl) .nil .nil
  (A:=List ax×ax) (fun a k=>VI a.1 a.2 k) (·.1) (fun a _ x=>x==a.2) (fun a=>a.1.length<=1000000) (fun a i=>(.ret,⟨19,[(4,iD i)],[]⟩)) (fun a=>(.exit 0,⟨19,[],[]⟩)) (fun _ _ h=>by cases h) (fun _ h=>by cases h)
  (by
   rintro⟨l,s⟩ k post eb hm h0 hk ht hf
   dsimp only at*
   (rw[<-QE];delta tG vK EW Zm rC zj bQ dG kG LJ Za Z9 Zj Zs vH C6 Zg FB EE vG I8 Mz)
   have e1:D.nth (l.map aX) k.toNat=aX l[k.toNat]:=ay _ _ _ eb
   have v:(s.1==D.ah (D.ao (aX l[k.toNat]) 0)&&(s.2==D.ah (D.ao (aX l[k.toNat]) 1)&&true))=(l[k.toNat]==s):=qeK _ _
   rw[e1,v]
   simp only[VI,List.length_map] at hf⊢
   exact bV hk (ak ⟨h0,hk⟩ (aq (l7 _) (aw (fun h=>ht h) fun h=>ak (by omega) (hf h)))))
  (by
   rintro⟨l,s⟩ k post hm hk hp
   dsimp only at*
   (rw[<-QE];delta tG vK EW Zm rC zj bQ dG kG LJ Za Z9 Zj Zs vH C6 Zg FB EE vG I8 Mz)
   exact nv (by rw[List.length_map];omega) hp)
  (by
   rintro st post ⟨l,s,rfl,hm,h1,h2⟩
   exact⟨(l,s),rfl,hm,fun i hi h0 ht hb=>h1 i (by rw[EC hi ht hb];omega) h0,fun h=>h2 (I5 h)⟩)
theorem qeL:FD X 69 qbO:=FD.mk (H:=[]) (hk:=[(2,ae (aK 69 2) qbN)]) (by kernel_rfl) .nil (.cons VL .nil) (by
 intro ps R post hh
 obtain⟨l,s,rfl,rfl,hm,hp⟩:=hh
 (rw[<-qeI];delta I0 n9 Zs dV nz tG vK EW Z7 MI zj bQ dG kG LJ Z7c)
 exact⟨l,s,rfl,hm,fun i hi _=>hp i hi,fun h=>hp _ h.symm⟩)
theorem X8:FD X 38 E2:=FD.mk (H:=[(69,qbO)]) (hk:=[]) (by kernel_rfl) (.cons qeL .nil) .nil (by
 intro ps R post hh
 obtain⟨l,s,rfl,rfl,hm,hp⟩:=hh
 (rw[<-qeJ];delta Z2 dV nz Zw mr nq kG)
 refine⟨l,s,rfl,rfl,hm,fun i hi=>hp _ ?_⟩
 have h:=xH (fun x=>x==s) l
 rw[<-hi] at h
 rw[Bool.eq_iff_iff,decide_eq_true_eq,decide_eq_true_eq]
 have h2:(l.any fun x=>x==s)=true↔s∈l:=by simp[List.any_eq_true]
 rw[<-h2]
 constructor
 ·intro hge
  refine Classical.byContradiction fun hn=> ?_
  rw[Bool.not_eq_true] at hn
  have:=h.2 hn
  omega
 ·intro ha
  refine Classical.byContradiction fun hn=> ?_
  have:=h.1 (by omega)
  rw[this] at ha
  cases ha)
end
theorem pS (l:List aj):(Jj l).length<=l.length:=by
 have h1:=UZ ((az l).map eV)
 have h2:=cv l
 rw[List.length_map] at h1
 unfold Jj
 omega
section
variable {X:XF} {w0:World} (hX:db PR w0 X.cf)
include hX
theorem qgI:LY w0 19 4 1 CM 1 (dR (aK CM 1) gUn):=LY.par hX (H:=[(38,E2)]) (HN:=[]) (base:=2000000) (keep:=kpU) C7 (.cons X8 .nil) .nil (by kernel_rfl) (by kernel_rfl) (by kernel_rfl)
 (A:=List aj×List ax) (B:=Bool×Int)
 (fun a b=>(yz a.1 b.2,(.normal,SF b.1 a.2 (0,0) 0)))
 (fun a b=>(a.1.length<=1000000/\a.2.length<=1000000)/\0<=b.2/\b.2.toNat<=a.1.length/\bZ a.2 a.1=bZ a.2 (a.1.drop b.2.toNat))
 (fun a b=>((a.1.length:Int)-b.2).toNat)
 (fun a x=>(∃z s,bZ a.2 a.1=some s/\x=(.ret,SE a.1,(.ret,SF z a.2 s 0)))\/(∃z,bZ a.2 a.1=none/\x=(.exit 0,SE a.1,(.normal,SF z a.2 (0,0) 0))))
 (by
  rintro⟨own,on⟩ ⟨z,i⟩ ⟨hm,h0,hi,hu⟩
  dsimp only at*
  have key: ∀(bc:i.toNat<own.length),bZ on own=if own[i.toNat].bN=(0,0)/\own[i.toNat].s∈on then some own[i.toNat].s else bZ on (own.drop (i+1).toNat):=fun bc=>by
   rw[hu,List.drop_eq_getElem_cons bc,show(i+1).toNat=i.toNat+1 by omega]
   rfl
  have y8: ¬i.toNat<own.length->bZ on own=none:=fun bc=>by
   rw[hu,List.drop_of_length_le (by omega)]
   rfl
  have tk:List.take on.length (on.map aX)=on.map aX:=List.take_of_length_le (by simp)
  cases z with
  |false=>
   (rw[<-qgE];delta cK fR SG iM SH HM nW qK Jx dV ye Z7 ZY LK yf p9 pj HO HP bQ jR X6 Z7u Zm ZJ gO Cu QF Za Z9 Zj VJ Z7r Zg fQ lG mz LL LM nz Zw mr nq kG rz Cw Z7s FI c8 pc u7)
   rw[List.length_map]
   refine bJ (fun hp=> ?_) fun hp=> .inr ⟨false,y8 (by omega),rfl⟩
   have bc:i.toNat<own.length:=by omega
   have e1:D.nth (own.map aP) i.toNat=aP own[i.toNat]:=ay _ _ _ bc
   have key:=key bc
   rw[e1,tk]
   generalize own[i.toNat]=g at*
   have u1:D.ah (D.ao (aP g) 4)=g.bN.1:=rfl
   have u2:D.ah (D.ao (aP g) 5)=g.bN.2:=rfl
   rw[u1,u2]
   refine ak ⟨h0,hp⟩ (aq (df _) (aw (fun h=>⟨on,g.s,rfl,rfl,hm.2,fun b hb=> ?_⟩) fun h=>ak (by omega) ?_))
   ·have hz:g.bN=(0,0):=by
     simp only[Bool.and_true,Bool.and_eq_true,beq_iff_eq] at h
     exact Prod.ext h.1 h.2
    subst hb
    refine bJ (fun hb=> .inl ⟨true,g.s,by rw[key,if_pos ⟨hz,hb⟩],rfl⟩) fun hb=>ak (by omega) ?_
    exact⟨((own.length:Int)-(i+1)).toNat,by omega,(true,i+1),by simp only[yz,List.length_map],⟨hm,by show 0<=i+1;omega,by show(i+1).toNat<=_;omega,by show bZ on own=bZ on (own.drop (i+1).toNat);rw[key,if_neg (fun hh=>hb hh.2)]⟩,rfl⟩
   ·have hz: ¬g.bN=(0,0):=fun hz=>by rw[hz] at h;simp at h
    exact⟨((own.length:Int)-(i+1)).toNat,by omega,(false,i+1),by simp only[yz,List.length_map],⟨hm,by show 0<=i+1;omega,by show(i+1).toNat<=_;omega,by show bZ on own=bZ on (own.drop (i+1).toNat);rw[key,if_neg (fun hh=>hz hh.1)]⟩,rfl⟩
  |true=>
   (rw[<-qgF];delta cK fR SG iM SH HM VJ dV ye Z7 ZY LK yf p9 pj HO HP bQ jR X6 Z7r Zm ZJ gO Cu QF Za Z9 Zj Zg fQ lG mz LL LM nz Zw mr nq kG rz Cw Z7s FI c8 pc u7)
   rw[List.length_map]
   refine bJ (fun hp=> ?_) fun hp=> .inr ⟨true,y8 (by omega),rfl⟩
   have bc:i.toNat<own.length:=by omega
   have e1:D.nth (own.map aP) i.toNat=aP own[i.toNat]:=ay _ _ _ bc
   have key:=key bc
   rw[e1,tk]
   generalize own[i.toNat]=g at*
   have u1:D.ah (D.ao (aP g) 4)=g.bN.1:=rfl
   have u2:D.ah (D.ao (aP g) 5)=g.bN.2:=rfl
   rw[u1,u2]
   refine ak ⟨h0,hp⟩ (aq (df _) (aw (fun h=>⟨on,g.s,rfl,rfl,hm.2,fun b hb=> ?_⟩) fun h=>ak (by omega) ?_))
   ·have hz:g.bN=(0,0):=by
     simp only[Bool.and_true,Bool.and_eq_true,beq_iff_eq] at h
     exact Prod.ext h.1 h.2
    subst hb
    refine bJ (fun hb=> .inl ⟨true,g.s,by rw[key,if_pos ⟨hz,hb⟩],rfl⟩) fun hb=>ak (by omega) ?_
    exact⟨((own.length:Int)-(i+1)).toNat,by omega,(true,i+1),by simp only[yz,List.length_map],⟨hm,by show 0<=i+1;omega,by show(i+1).toNat<=_;omega,by show bZ on own=bZ on (own.drop (i+1).toNat);rw[key,if_neg (fun hh=>hb hh.2)]⟩,rfl⟩
   ·have hz: ¬g.bN=(0,0):=fun hz=>by rw[hz] at h;simp at h
    exact⟨((own.length:Int)-(i+1)).toNat,by omega,(true,i+1),by simp only[yz,List.length_map],⟨hm,by show 0<=i+1;omega,by show(i+1).toNat<=_;omega,by show bZ on own=bZ on (own.drop (i+1).toNat);rw[key,if_neg (fun hh=>hz hh.1)]⟩,rfl⟩)
 (by
  rintro y post ⟨own,on,h1,rfl,h2,h3⟩
  refine⟨(own,on),(false,0),rfl,⟨h1,Int.le_refl _,by simp,rfl⟩,?_⟩
  rintro x (⟨z,s,h,rfl⟩| ⟨z,h,rfl⟩)
  ·exact h2 z s h
  ·exact h3 z h)
theorem qgJ:FN w0 19 4 qbP:=FN.mk hX (H:=[]) (HN:=[]) C7 .nil .nil (base:=2000000) (keep:=kpU) (by kernel_rfl) (hk:=fun fi yt=>if Nat.beq fi CM&&Nat.beq yt 1 then [(1,dR (aK CM 1) gUn)] else [])
 (by
  intro fi yt h yw hl
  split at hl
  ·rename_i hb
   rw[Bool.and_eq_true] at hb
   have e1:=Nat.eq_of_beq_eq_true hb.1
   have e2:=Nat.eq_of_beq_eq_true hb.2
   subst e1 e2
   unfold lk at hl
   split at hl
   ·rename_i he
    have e3:=Nat.eq_of_beq_eq_true he
    subst e3
    cases hl
    exact⟨by kernel_rfl,qgI hX⟩
   ·cases hl
  ·cases hl)
 (by
  rintro s post ⟨l,own,on,r,rfl,hm,h1,h2⟩
  (rw[<-qgG];delta Z7 ZY p9 pj Z7w dV ye LK yf tG vK HO iM HP bQ jR X6 nW qK Jx Z7u cK fR SG ZZ gO Cu SH Z7v nz dm mA)
  exact⟨own,on,hm,rfl,h1,h2⟩)
def uH:bm:=fun ps R post=> ∃l r,ps=[bO l,iD r]/\R=[]/\jc l/\ ∀a,a=qG l r->post (stO a,[])
theorem qbQ (hV:ND w0 35 HL):ND w0 19 uH:=ND.mk hX (H:=[(36,QB)]) (HN:=[(35,HL)]) (hk:=[(500004,qbP)]) C7 (by kernel_rfl) (by kernel_rfl) (.cons X5 .nil) (.cons hV .nil) (.range (qgJ hX) .nil) (by
 intro ps R post hh
 obtain⟨l,r,rfl,rfl,hs,hp⟩:=hh
 (rw[<-qgH];delta Z7 VK ZY mr X7 dV nz dm mA cK fR Z7y nW qK xZ LK p9 Zs ZD lH Z7z Zu E3 Zw qb)
 have hl:=hs.1
 have h1:=pS l
 have h2:=cv l
 have h3:(xQ (az l) r).length<=(az l).length:=by rw[(tE _ _).length_eq];exact List.length_filter_le _ _
 refine⟨l,rfl,rfl,hs,fun o ho=>⟨l,r,rfl,rfl,hs,fun ow how=>⟨l,ow,o,r,rfl,⟨by rw[how];omega,by rw[ho];omega⟩,fun _ s h=> ?_,fun _ h=> ?_⟩⟩⟩
 ·exact hp (s,0) (by unfold qG;rw[<-ho,<-how,h];rfl)
 ·exact hp ((0,0),200) (by unfold qG;rw[<-ho,<-how,h];rfl))
end
end Pi
namespace Pi
open Go Go.Proofs
set_option maxRecDepth 100000
set_option maxHeartbeats 0
abbrev QG (z w:Bool) (on:List ax) (h:List Hd) (x:ax) (e:Int):List (Nat×En):=[(0,⟨0,none,.box 30 [iD x.1,iD x.2]⟩),(1,⟨0,none,.box 35 [iD e]⟩),(2,⟨0,none,.box 51 [.sl 3 0 on.length]⟩),(3,⟨0,none,nV w on⟩),(4,⟨0,none,.box 51 [.sl 5 0 h.length]⟩),(5,⟨0,none,nV z (h.map (·.1))⟩),(6,⟨0,none,.box 51 [.sl 7 0 h.length]⟩),(7,⟨0,none,nV z (h.map (·.2))⟩)]
abbrev VM (l m:List aj) (r:Int) (on:List ax) (h:List Hd) (i:Int):S:=⟨69,[(0,bO l),(1,iD r),(4,.ref 0 0 0),(5,.ref 1 0 0),(6,.ref 2 0 0),(7,.ref 4 0 0),(8,.ref 6 0 0),(20,.sl 8 0 m.length),(21,iD (m.length:Int)),(22,iD i)],QG false false on h (0,0) 0++[(8,⟨0,none,my false m⟩)]⟩
abbrev qeM (l:List aj) (r:Int) (on:List ax) (h:List Hd):S:=⟨69,[(0,bO l),(1,iD r),(4,.ref 0 0 0),(5,.ref 1 0 0),(6,.ref 2 0 0),(7,.ref 4 0 0),(8,.ref 6 0 0)],QG false false on h (0,0) 0⟩
def QH (h:List Hd):En:=En.mk 0 none (Obj.arr (30:TypeId) false (pP h))
def QI (h:List Hd):Nat×En:=(6,En.mk 0 none (Obj.box (51:TypeId) [P.sl 7 0 (eU h)]))
def QJ (h:List Hd):En:=En.mk 0 none (Obj.arr (30:TypeId) false (ny h))
def QK (h:List Hd):Nat×En:=(4,En.mk 0 none (Obj.box (51:TypeId) [P.sl 5 0 (eU h)]))
def VN (on:List ax) (h:List Hd):List (Nat×En):=[pj,yf,ye on,Jx on,QK h,(5,QJ h),QI h,(7,QH h)]
def QL:Nat×P:=(8,P.ref 6 0 0)
def QM:Nat×P:=(7,P.ref 4 0 0)
def E4:List (Nat×P):=[jR,HP,HO,QM,QL]
def Z7H (h:List Hd) (m:List aj) (i:Int):En:=En.mk 0 none (Obj.arr (30:TypeId) false (List.take (eU h) (pP h)++[D.agg (Sy m i)]))
def Z7G (h:List Hd) (m:List aj) (i:Int):En:=En.mk 0 none (Obj.arr (30:TypeId) false (List.take (eU h) (ny h)++[rz m i]))
def X9 (h:List Hd) (m:List aj) (i:Int):Nat:=eU h+List.length [D.agg (Sy m i)]
def Ya (h:List Hd) (m:List aj) (i:Int):Nat:=eU h+List.length [rz m i]
theorem qeN (l m:List aj) (r:Int) (on:List ax) (h:List Hd) (i:Int) (post:PX×S->Prop):(bif vI i m then bif jq i m then bif gS i m then bif c8 m i then bif Nat.ble (eU h) (List.length (ny h))&&aT (Ya h m i) 16 then bif Nat.ble (eU h) (List.length (pP h))&&aT (X9 h m i) 16 then bif Zj i then post (PX.normal,S.mk 69 [lH l,ZD r,jR,HP,HO,QM,QL,(20,P.sl 8 0 (dm m)),(21,AK m),(22,P.d (Zm i))] [pj,yf,ye on,Jx on,(4,En.mk 0 none (Obj.box (51:TypeId) [P.sl 5 0 (Ya h m i)])),(5,Z7G h m i),(6,En.mk 0 none (Obj.box (51:TypeId) [P.sl 7 0 (X9 h m i)])),(7,Z7H h m i),(8,kJ m)]) else False else False else False else False else False else False else post (PX.exit 0,S.mk 69 (lH l::ZD r::E4) (VN on h)))=(eP [] [] [] 17 3 (VM l m r on h i)) post:=by kernel_rfl
abbrev LO:Option (List Nat×List Nat):=some ([4,5,6,7,8],[4,5,6,7,8])
abbrev sB (z w:Bool) (on:List ax) (h:List Hd) (x:ax) (e:Int):S:=⟨69,[(4,.ref 0 0 0),(5,.ref 1 0 0),(6,.ref 2 0 0),(7,.ref 4 0 0),(8,.ref 6 0 0)],QG z w on h x e⟩
def Z7P (h:List Hd):List (Nat×En):=[QK h,(5,En.mk 0 none (Obj.arr (30:TypeId) true (ny h))),QI h,(7,En.mk 0 none (Obj.arr (30:TypeId) true (pP h)))]
def Z7T (on:List ax) (h:List Hd):S:=S.mk 69 E4 (pj::yf::ye on::Jx on::Z7P h)
def Z7Q (on:List ax) (h:List Hd):S:=S.mk 69 E4 (pj::yf::ye on::VJ on::Z7P h)
def Z7R (i:Int) (post:PX×S×PX×S->Prop) (own:List aj) (on:List ax) (h:List Hd):Prop:=bif Zj i then post (PX.normal,QF own i,PX.normal,Z7Q on h) else False
def Z7S (on:List ax) (own:List aj) (i:Int) (post:PX×S×PX×S->Prop) (h:List Hd):Prop:= ∃(l:List ax) (s:ax),P.d (D.sl 2 (List.take (dV on) (List.map aX on)))::Cw own i=kG l::nq s/\Zw/\nz l/\ ∀(b:Bool),LM b l s->bif b then post (PX.ret,HM own,PX.ret,S.mk 69 E4 (LL own i::yf::ye on::VJ on::Z7P h)) else Z7R i post own on h
def Z7O (h:List Hd) (own:List aj) (i:Int) (l:List Hd) (x:ax):Prop:=P.d (D.sl 2 (List.take (eU h) (ny h)))::P.d (D.sl 2 (List.take (eU h) (pP h)))::Cw own i=P.d (D.sl 2 (ny l))::P.d (D.sl 2 (pP l))::nq x
def Z7U (h:List Hd) (own:List aj) (i:Int) (on:List ax) (post:PX×S×PX×S->Prop):Prop:= ∃(l:List Hd) (x:ax),Z7O h own i l x/\Zw/\Qr l/\ ∀(e:Int) (r:ax) (ev:Bool),fP l x=(e,r,ev)->bif e==(0:Int) then bif !ev then Z7S on own i post h else bif Zj i then post (PX.normal,QF own i,PX.normal,Z7T on h) else False else bif Zj i then post (PX.normal,QF own i,PX.normal,Z7T on h) else False
theorem qgK (own:List aj) (on:List ax) (h:List Hd) (i:Int) (post:PX×S×PX×S->Prop):(bif u7 i own then bif pc i own then bif c8 own i then bif FI own i then post (PX.ret,HM own,PX.exit 2,S.mk 69 E4 (VN on h)) else Z7U h own i on post else False else False else post (PX.exit 0,HM own,PX.normal,S.mk 69 E4 (VN on h)))=(lg [(37,hEr),(38,E2)] [] 17 9 2000000 LO 1 CM 1 (yz own i,(.normal,sB false false on h (0,0) 0))) post:=by kernel_rfl
theorem qgL (own:List aj) (on:List ax) (h:List Hd) (i:Int) (post:PX×S×PX×S->Prop):(bif u7 i own then bif pc i own then bif c8 own i then bif FI own i then post (PX.ret,HM own,PX.exit 2,Z7T on h) else Z7U h own i on post else False else False else post (PX.exit 0,HM own,PX.normal,Z7T on h))=(lg [(37,hEr),(38,E2)] [] 17 9 2000000 LO 1 CM 1 (yz own i,(.normal,sB true false on h (0,0) 0))) post:=by kernel_rfl
theorem qgM (own:List aj) (on:List ax) (h:List Hd) (i:Int) (post:PX×S×PX×S->Prop):(bif u7 i own then bif pc i own then bif c8 own i then bif FI own i then post (PX.ret,HM own,PX.exit 2,Z7Q on h) else∃(l:List Hd) (x:ax),Z7O h own i l x/\Zw/\Qr l/\ ∀(e:Int) (r:ax) (ev:Bool),fP l x=(e,r,ev)->bif e==(0:Int) then bif !ev then Z7S on own i post h else Z7R i post own on h else Z7R i post own on h else False else False else post (PX.exit 0,HM own,PX.normal,Z7Q on h))=(lg [(37,hEr),(38,E2)] [] 17 9 2000000 LO 1 CM 1 (yz own i,(.normal,sB true true on h (0,0) 0))) post:=by kernel_rfl
def qbR:xW:=fun y post=> ∃own on h,(own.length<=1000000/\on.length<=1000000/\h.length<=1000000/\(h.map (·.1)).Nodup)/\y=(yz own 0,(.normal,sB false false on h (0,0) 0))/\
 (∀z w s,bn h on own=some s->post (.ret,SE own,(.ret,sB z w on h s 0)))/\(∀z w,bn h on own=none->post (.exit 0,SE own,(.normal,sB z w on h (0,0) 0)))/\(∀z w,bn h on own=none->post (.ret,SE own,(.exit 2,sB z w on h (0,0) 0)))
abbrev qeO (l own:List aj) (on:List ax) (h:List Hd) (r:Int):S:=⟨69,[(0,bO l),(1,iD r),(4,.ref 0 0 0),(5,.ref 1 0 0),(6,.ref 2 0 0),(7,.ref 4 0 0),(8,.ref 6 0 0),(37,bO l),(38,iD r),(39,.fn CM [.ref 1039000 0 0])],QG false false on h (0,0) 0++[(1039000,⟨0,none,.box 22 [bO own]⟩)]⟩
def Z7V (aI:List ax) (w:Bool) (uI:List Hd) (z:Bool):List (Nat×En):=[yf,ye aI,Z7w w aI,QK uI,(5,En.mk 0 none (Obj.arr (30:TypeId) z (ny uI))),QI uI,(7,En.mk 0 none (Obj.arr (30:TypeId) z (pP uI)))]
theorem qeP (l own:List aj) (on:List ax) (h:List Hd) (r:Int) (post:PX×S->Prop):(∃(qL:List aj) (aI:List ax) (uI:List Hd),(mA qL/\nz aI/\Qr uI)/\(Z7v own,PX.normal,S.mk 69 E4 (VN on h))=(Z7v qL,PX.normal,S.mk 69 E4 (VN aI uI))/\(∀(z w:Bool) (s:ax),bn uI aI qL=some s->post (PX.ret,S.mk 69 E4 (vK s::Z7V aI w uI z)))/\(∀(z w:Bool),bn uI aI qL=none->post (PX.normal,S.mk 69 E4 (pj::Z7V aI w uI z)))/\ ∀(z w:Bool),bn uI aI qL=none->post (PX.exit 2,S.mk 69 E4 (pj::Z7V aI w uI z)))=(vJ [] [] (fun fi yt=>if Nat.beq fi CM&&Nat.beq yt 1 then [(1,dR (aK CM 1) qbR)] else []) 17 9 2000000 LO (qeO l own on h r)) post:=by kernel_rfl
def qbS:S->K (PX×S):=fun s post=> ∃l own on h r,s=qeO l own on h r/\(own.length<=1000000/\on.length<=1000000/\h.length<=1000000/\(h.map (·.1)).Nodup)/\(∀z w s,bn h on own=some s->post (.ret,sB z w on h s 0))/\(∀z w,bn h on own=none->post (.normal,sB z w on h (0,0) 0))/\(∀z w,bn h on own=none->post (.exit 2,sB z w on h (0,0) 0))
def qbT:S->K (PX×S):=fun s post=> ∃l m r on,s=VM l m r on [] 0/\m.length<=1000000/\ ∀h,h=m.map eV->post (.exit 0,qeM l r on h)
def Z7X (vf:List aj) (cA:Int) (on:List ax) (h:List Hd) (o:List aj):S:=S.mk 69 [lH vf,ZD cA,jR,HP,HO,QM,QL,(37,fR vf),(38,P.d (Zs cA)),(39,P.fn (101:FuncId) [P.ref 1039000 0 0])] [pj,yf,ye on,Jx on,QK h,(5,QJ h),QI h,(7,QH h),(1039000,Z7y o)]
def Z7W (l:List aj) (r:Int) (m:List aj) (o:List ax):S:=S.mk 69 [lH l,ZD r,jR,HP,HO,QM,QL,(20,P.sl 8 0 (dm m)),(21,AK m),(22,P.d Z7)] [pj,yf,ye o,Jx o,(4,En.mk 0 none (Obj.box (51:TypeId) [P.sl 5 0 0])),(5,xZ),(6,En.mk 0 none (Obj.box (51:TypeId) [P.sl 7 0 0])),(7,xZ),(8,kJ m)]
theorem qbU (l:List aj) (r:Int) (post:P×List (Nat×En)->Prop):(∃(ar:List aj),qb l ar/\Zw/\jc ar/\ ∀(o:List ax),o=Jj ar-> ∃(gq:List aj),qb l gq/\Zw/\jc gq/\ ∀(m:List aj),m=az gq-> ∃(vf:List aj) (bL:List aj) (cA:Int) (on:List ax),Z7W l r m o=Z7W vf cA bL on/\mA bL/\ ∀(h:List Hd),h=List.map eV bL-> ∃(l:List aj) (r:Int),E3 vf cA l r/\Zw/\jc l/\ ∀(o:List aj),o=xQ (az l) r-> ∃(l:List aj) (own:List aj) (aI:List ax) (uI:List Hd) (r:Int),Z7X vf cA on h o=Z7X l r aI uI own/\(mA own/\nz aI/\Qr uI)/\(∀(_ _:Bool) (s:ax),bn uI aI own=some s->X7 post s)/\(∀(_ _:Bool),bn uI aI own=none->VK post)/\ ∀(_ _:Bool),bn uI aI own=none->VK post)=(rv [(30,ma),(36,QB)] [(35,HL)] [(3,ae (aK 17 3) qbT),(500009,qbS)] 17 [bO l,iD r] []) post:=by kernel_rfl
end Pi
namespace Pi
open Go Go.Proofs
set_option maxRecDepth 100000
section
variable {X:XF} {w0:World} (hX:db PR w0 X.cf)
include hX
theorem qgN:LN w0 17 3 (ae (aK 17 3) qbT):=LN.idx hX (H:=[]) (HN:=[]) (hk:=[]) C7 (by kernel_rfl) (by kernel_rfl) (by kernel_rfl) .nil .nil .nil
 (A:=List aj×List aj×Int×List ax) (B:=List Hd) (fun a h i=>VM a.1 a.2.1 a.2.2.1 a.2.2.2 h i) (fun a=>a.2.1.length) (fun a i h=>a.2.1.length<=1000000/\h=(a.2.1.take i).map eV)
 (fun a x=>x=(.exit 0,qeM a.1 a.2.2.1 a.2.2.2 (a.2.1.map eV)))
 (by
  rintro⟨l,m,r,on⟩ h i post h0 bS bc ⟨hm,hh⟩ hn ho
  try dsimp only at*
  (rw[<-qeN];delta pP QH eU QI ny QJ QK nW qK Jx dV ye Z7 ZY LK yf p9 pj VN QL QM HO iM HP bQ jR E4 cK kJ Zg fQ Sy Z7H lG mz rz Z7G Zm dm AK Zs ZD fR lH Za Z9 Zj X9 Ya c8 gO gS jq vI)
  have e1:D.nth (m.map aP) i.toNat=aP m[i.toNat]:=ay _ _ _ bc
  have hl:h.length<=1000000:=by rw[hh,List.length_map,List.length_take];omega
  have vM:(m.take (i.toNat+1)).map eV=h++[eV m[i.toNat]]:=by rw[List.take_succ_eq_append_getElem bc,List.map_append,hh];rfl
  rw[e1]
  generalize m[i.toNat]=g at*
  have p1:List.take h.length ((h.map fun x=>x.1).map aX)++[aX g.s]=((h++[eV g]).map fun x=>x.1).map aX:=by
   rw[List.take_of_length_le (by simp),List.map_append,List.map_append]
   rfl
  have p2:List.take h.length ((h.map fun x=>x.2).map aX)++[aX g.bN]=((h++[eV g]).map fun x=>x.2).map aX:=by
   rw[List.take_of_length_le (by simp),List.map_append,List.map_append]
   rfl
  have hy:=hn (h++[eV g]) ⟨hm,vM.symm⟩
  simp only[VM,QG,nV,List.cons_append,List.nil_append] at hy
  rw[<-p1,<-p2,List.length_append] at hy
  simp only[List.length_map]
  refine bV bS (ak ⟨h0,bS⟩ (ak bc (aq (df _) (aq ?_ (aq ?_ (ak (by omega) ?_))))))
  ·rw[Bool.and_eq_true]
   exact⟨by simp,cD hl (by omega)⟩
  ·rw[Bool.and_eq_true]
   exact⟨by simp,cD hl (by omega)⟩
  ·exact hy)
 (by
  rintro⟨l,m,r,on⟩ h i post hi ⟨hm,hh⟩ ho
  try dsimp only at*
  (rw[<-qeN];delta pP QH eU QI ny QJ QK nW qK Jx dV ye Z7 ZY LK yf p9 pj VN QL QM HO iM HP bQ jR E4 cK kJ Zg fQ Sy Z7H lG mz rz Z7G Zm dm AK Zs ZD fR lH Za Z9 Zj X9 Ya c8 gO gS jq vI)
  refine nv (by omega) (ho _ (fun h=>by cases h) ?_)
  rw[hh,List.take_length])
 (by
  rintro s post ⟨l,m,r,on,rfl,hm,hp⟩
  refine⟨(l,m,r,on),[],rfl,⟨hm,rfl⟩,?_⟩
  rintro x rfl
  exact hp _ rfl)
theorem qgO:LY w0 17 9 1 CM 1 (dR (aK CM 1) qbR):=LY.par hX (H:=[(37,hEr),(38,E2)]) (HN:=[]) (base:=2000000) (keep:=LO) C7 (.cons qgy (.cons X8 .nil)) .nil (by kernel_rfl) (by kernel_rfl) (by kernel_rfl)
 (A:=List aj×List ax×List Hd) (B:=(Bool×Bool)×Int)
 (fun a b=>(yz a.1 b.2,(.normal,sB b.1.1 b.1.2 a.2.1 a.2.2 (0,0) 0)))
 (fun a b=>(a.1.length<=1000000/\a.2.1.length<=1000000/\a.2.2.length<=1000000/\(a.2.2.map (·.1)).Nodup)/\(b.1.2=true->b.1.1=true)/\0<=b.2/\b.2.toNat<=a.1.length/\bn a.2.2 a.2.1 a.1=bn a.2.2 a.2.1 (a.1.drop b.2.toNat))
 (fun a b=>((a.1.length:Int)-b.2).toNat)
 (fun a x=>(∃z w s,bn a.2.2 a.2.1 a.1=some s/\x=(.ret,SE a.1,(.ret,sB z w a.2.1 a.2.2 s 0)))\/(∃z w,bn a.2.2 a.2.1 a.1=none/\x=(.exit 0,SE a.1,(.normal,sB z w a.2.1 a.2.2 (0,0) 0)))\/(∃z w,bn a.2.2 a.2.1 a.1=none/\x=(.ret,SE a.1,(.exit 2,sB z w a.2.1 a.2.2 (0,0) 0))))
 (by
  rintro⟨own,on,h⟩ ⟨⟨z,w⟩,i⟩ ⟨hm,hzw,h0,hi,hu⟩
  try dsimp only at*
  have key: ∀(bc:i.toNat<own.length),bn h on own=if own[i.toNat].bN=(0,0) then none else if tF h own[i.toNat].s=true/\own[i.toNat].s∈on then some own[i.toNat].s else bn h on (own.drop (i+1).toNat):=fun bc=>by
   rw[hu,List.drop_eq_getElem_cons bc,show(i+1).toNat=i.toNat+1 by omega]
   rfl
  have y8: ¬i.toNat<own.length->bn h on own=none:=fun bc=>by
   rw[hu,List.drop_of_length_le (by omega)]
   rfl
  have tk:List.take on.length (on.map aX)=on.map aX:=List.take_of_length_le (by simp)
  have tk1:List.take h.length ((h.map fun x=>x.1).map aX)=(h.map fun x=>x.1).map aX:=List.take_of_length_le (by simp)
  have tk2:List.take h.length ((h.map fun x=>x.2).map aX)=(h.map fun x=>x.2).map aX:=List.take_of_length_le (by simp)
  rcases z with _ |_<;>rcases w with _ |_
  ·(rw[<-qgK];delta pP eU QI ny QK Z7P nW qK Jx dV ye Z7 ZY LK yf p9 pj QL QM HO iM HP bQ jR E4 Z7T cK fR SG Zm ZJ gO Cu SH QF Za Z9 Zj VJ Z7Q Z7R Zg fQ lG mz LL HM LM nz Zw mr nq kG rz Cw Z7S lI Qr Z7O Z7U QH QJ VN FI c8 pc u7)
   rw[List.length_map]
   refine bJ (fun hp=> ?_) fun hp=> .inr (.inl ⟨false,false,y8 (by omega),rfl⟩)
   have bc:i.toNat<own.length:=by omega
   have e1:D.nth (own.map aP) i.toNat=aP own[i.toNat]:=ay _ _ _ bc
   have key:=key bc
   rw[e1,tk,tk1,tk2]
   generalize own[i.toNat]=g at*
   have u1:D.ah (D.ao (aP g) 4)=g.bN.1:=rfl
   have u2:D.ah (D.ao (aP g) 5)=g.bN.2:=rfl
   rw[u1,u2]
   refine ak ⟨h0,hp⟩ (aq (df _) (aw (fun hb=> ?_) fun hb=>⟨h,g.s,rfl,rfl,⟨hm.2.2.1,hm.2.2.2⟩,fun e r ev hr=> ?_⟩))
   ·have hz:g.bN=(0,0):=by
     simp only[Bool.and_true,Bool.and_eq_true,beq_iff_eq] at hb
     exact Prod.ext hb.1 hb.2
    exact .inr (.inr ⟨false,false,by rw[key,if_pos hz],rfl⟩)
   ·have hz: ¬g.bN=(0,0):=fun hz=>by rw[hz] at hb;simp at hb
    have CN:tF h g.s=(e==0&& !ev):=by unfold tF;rw[hr]
    rw[if_neg hz,CN] at key
    refine U6 (fun he=>aw (fun hv=>⟨on,g.s,rfl,rfl,hm.2.1,fun b cu=> ?_⟩) fun hv=>ak (by omega) ?_) fun he=>ak (by omega) ?_
    ·subst cu
     have ho:(e==0&& !ev)=true:=by rw[hv];simp[he]
     refine bJ (fun iL=> .inl ⟨true,true,g.s,by rw[key,if_pos ⟨ho,iL⟩],rfl⟩) fun iL=>ak (by omega) ?_
     exact⟨((own.length:Int)-(i+1)).toNat,by omega,((true,true),i+1),by simp only[yz,List.length_map],⟨hm,fun _=>rfl,by show 0<=i+1;omega,by show(i+1).toNat<=_;omega,by show bn h on own=bn h on (own.drop (i+1).toNat);rw[key,if_neg (fun hh=>iL hh.2)]⟩,rfl⟩
    ·exact⟨((own.length:Int)-(i+1)).toNat,by omega,((true,false),i+1),by simp only[yz,List.length_map],⟨hm,fun _=>rfl,by show 0<=i+1;omega,by show(i+1).toNat<=_;omega,by show bn h on own=bn h on (own.drop (i+1).toNat);rw[key,if_neg (fun hh=>by rw[hv,Bool.and_false] at hh;cases hh.1)]⟩,rfl⟩
    ·exact⟨((own.length:Int)-(i+1)).toNat,by omega,((true,false),i+1),by simp only[yz,List.length_map],⟨hm,fun _=>rfl,by show 0<=i+1;omega,by show(i+1).toNat<=_;omega,by show bn h on own=bn h on (own.drop (i+1).toNat);rw[key,if_neg (fun hh=>he (by have:=hh.1;rw[Bool.and_eq_true] at this;simpa using this.1))]⟩,rfl⟩
  ·exact absurd (hzw rfl) (by decide)
  ·(rw[<-qgL];delta pP eU QI ny QK Z7P nW qK Jx dV ye Z7 ZY LK yf p9 pj QL QM HO iM HP bQ jR E4 Z7T cK fR SG Zm ZJ gO Cu SH QF Za Z9 Zj VJ Z7Q Z7R Zg fQ lG mz LL HM LM nz Zw mr nq kG rz Cw Z7S lI Qr Z7O Z7U FI c8 pc u7)
   rw[List.length_map]
   refine bJ (fun hp=> ?_) fun hp=> .inr (.inl ⟨true,false,y8 (by omega),rfl⟩)
   have bc:i.toNat<own.length:=by omega
   have e1:D.nth (own.map aP) i.toNat=aP own[i.toNat]:=ay _ _ _ bc
   have key:=key bc
   rw[e1,tk,tk1,tk2]
   generalize own[i.toNat]=g at*
   have u1:D.ah (D.ao (aP g) 4)=g.bN.1:=rfl
   have u2:D.ah (D.ao (aP g) 5)=g.bN.2:=rfl
   rw[u1,u2]
   refine ak ⟨h0,hp⟩ (aq (df _) (aw (fun hb=> ?_) fun hb=>⟨h,g.s,rfl,rfl,⟨hm.2.2.1,hm.2.2.2⟩,fun e r ev hr=> ?_⟩))
   ·have hz:g.bN=(0,0):=by
     simp only[Bool.and_true,Bool.and_eq_true,beq_iff_eq] at hb
     exact Prod.ext hb.1 hb.2
    exact .inr (.inr ⟨true,false,by rw[key,if_pos hz],rfl⟩)
   ·have hz: ¬g.bN=(0,0):=fun hz=>by rw[hz] at hb;simp at hb
    have CN:tF h g.s=(e==0&& !ev):=by unfold tF;rw[hr]
    rw[if_neg hz,CN] at key
    refine U6 (fun he=>aw (fun hv=>⟨on,g.s,rfl,rfl,hm.2.1,fun b cu=> ?_⟩) fun hv=>ak (by omega) ?_) fun he=>ak (by omega) ?_
    ·subst cu
     have ho:(e==0&& !ev)=true:=by rw[hv];simp[he]
     refine bJ (fun iL=> .inl ⟨true,true,g.s,by rw[key,if_pos ⟨ho,iL⟩],rfl⟩) fun iL=>ak (by omega) ?_
     exact⟨((own.length:Int)-(i+1)).toNat,by omega,((true,true),i+1),by simp only[yz,List.length_map],⟨hm,fun _=>rfl,by show 0<=i+1;omega,by show(i+1).toNat<=_;omega,by show bn h on own=bn h on (own.drop (i+1).toNat);rw[key,if_neg (fun hh=>iL hh.2)]⟩,rfl⟩
    ·exact⟨((own.length:Int)-(i+1)).toNat,by omega,((true,false),i+1),by simp only[yz,List.length_map],⟨hm,fun _=>rfl,by show 0<=i+1;omega,by show(i+1).toNat<=_;omega,by show bn h on own=bn h on (own.drop (i+1).toNat);rw[key,if_neg (fun hh=>by rw[hv,Bool.and_false] at hh;cases hh.1)]⟩,rfl⟩
    ·exact⟨((own.length:Int)-(i+1)).toNat,by omega,((true,false),i+1),by simp only[yz,List.length_map],⟨hm,fun _=>rfl,by show 0<=i+1;omega,by show(i+1).toNat<=_;omega,by show bn h on own=bn h on (own.drop (i+1).toNat);rw[key,if_neg (fun hh=>he (by have:=hh.1;rw[Bool.and_eq_true] at this;simpa using this.1))]⟩,rfl⟩
  ·(rw[<-qgM];delta pP eU QI ny QK Z7P VJ dV ye Z7 ZY LK yf p9 pj QL QM HO iM HP bQ jR E4 Z7Q cK fR SG Zm ZJ gO Cu SH QF Za Z9 Zj Z7R Zg fQ lG mz LL HM LM nz Zw mr nq kG rz Cw Z7S lI Qr Z7O FI c8 pc u7)
   rw[List.length_map]
   refine bJ (fun hp=> ?_) fun hp=> .inr (.inl ⟨true,true,y8 (by omega),rfl⟩)
   have bc:i.toNat<own.length:=by omega
   have e1:D.nth (own.map aP) i.toNat=aP own[i.toNat]:=ay _ _ _ bc
   have key:=key bc
   rw[e1,tk,tk1,tk2]
   generalize own[i.toNat]=g at*
   have u1:D.ah (D.ao (aP g) 4)=g.bN.1:=rfl
   have u2:D.ah (D.ao (aP g) 5)=g.bN.2:=rfl
   rw[u1,u2]
   refine ak ⟨h0,hp⟩ (aq (df _) (aw (fun hb=> ?_) fun hb=>⟨h,g.s,rfl,rfl,⟨hm.2.2.1,hm.2.2.2⟩,fun e r ev hr=> ?_⟩))
   ·have hz:g.bN=(0,0):=by
     simp only[Bool.and_true,Bool.and_eq_true,beq_iff_eq] at hb
     exact Prod.ext hb.1 hb.2
    exact .inr (.inr ⟨true,true,by rw[key,if_pos hz],rfl⟩)
   ·have hz: ¬g.bN=(0,0):=fun hz=>by rw[hz] at hb;simp at hb
    have CN:tF h g.s=(e==0&& !ev):=by unfold tF;rw[hr]
    rw[if_neg hz,CN] at key
    refine U6 (fun he=>aw (fun hv=>⟨on,g.s,rfl,rfl,hm.2.1,fun b cu=> ?_⟩) fun hv=>ak (by omega) ?_) fun he=>ak (by omega) ?_
    ·subst cu
     have ho:(e==0&& !ev)=true:=by rw[hv];simp[he]
     refine bJ (fun iL=> .inl ⟨true,true,g.s,by rw[key,if_pos ⟨ho,iL⟩],rfl⟩) fun iL=>ak (by omega) ?_
     exact⟨((own.length:Int)-(i+1)).toNat,by omega,((true,true),i+1),by simp only[yz,List.length_map],⟨hm,fun _=>rfl,by show 0<=i+1;omega,by show(i+1).toNat<=_;omega,by show bn h on own=bn h on (own.drop (i+1).toNat);rw[key,if_neg (fun hh=>iL hh.2)]⟩,rfl⟩
    ·exact⟨((own.length:Int)-(i+1)).toNat,by omega,((true,true),i+1),by simp only[yz,List.length_map],⟨hm,fun _=>rfl,by show 0<=i+1;omega,by show(i+1).toNat<=_;omega,by show bn h on own=bn h on (own.drop (i+1).toNat);rw[key,if_neg (fun hh=>by rw[hv,Bool.and_false] at hh;cases hh.1)]⟩,rfl⟩
    ·exact⟨((own.length:Int)-(i+1)).toNat,by omega,((true,true),i+1),by simp only[yz,List.length_map],⟨hm,fun _=>rfl,by show 0<=i+1;omega,by show(i+1).toNat<=_;omega,by show bn h on own=bn h on (own.drop (i+1).toNat);rw[key,if_neg (fun hh=>he (by have:=hh.1;rw[Bool.and_eq_true] at this;simpa using this.1))]⟩,rfl⟩)
 (by
  rintro y post ⟨own,on,h,h1,rfl,h2,h3,h4⟩
  refine⟨(own,on,h),((false,false),0),rfl,⟨h1,by decide,Int.le_refl _,by simp,rfl⟩,?_⟩
  rintro x (⟨z,w,s,h,rfl⟩| ⟨z,w,h,rfl⟩| ⟨z,w,h,rfl⟩)
  ·exact h2 z w s h
  ·exact h3 z w h
  ·exact h4 z w h)
theorem qgP:FN w0 17 9 qbS:=FN.mk hX (H:=[]) (HN:=[]) C7 .nil .nil (base:=2000000) (keep:=LO) (by kernel_rfl) (hk:=fun fi yt=>if Nat.beq fi CM&&Nat.beq yt 1 then [(1,dR (aK CM 1) qbR)] else [])
 (by
  intro fi yt h yw hl
  split at hl
  ·rename_i hb
   rw[Bool.and_eq_true] at hb
   have e1:=Nat.eq_of_beq_eq_true hb.1
   have e2:=Nat.eq_of_beq_eq_true hb.2
   subst e1 e2
   unfold lk at hl
   split at hl
   ·rename_i he
    have e3:=Nat.eq_of_beq_eq_true he
    subst e3
    cases hl
    exact⟨by kernel_rfl,qgO hX⟩
   ·cases hl
  ·cases hl)
 (by
  rintro s post ⟨l,own,on,h,r,rfl,hm,h1,h2,h3⟩
  (rw[<-qeP];delta Z7 ZY p9 pj pP eU QI ny QK Z7w dV ye LK yf Z7V tG vK QH QJ nW qK Jx VN QL QM HO iM HP bQ jR E4 cK fR SG ZZ gO Cu SH Z7v lI Qr nz dm mA)
  exact⟨own,on,h,hm,rfl,h1,h2,h3⟩)
def uJ:bm:=fun ps R post=> ∃l r,ps=[bO l,iD r]/\R=[]/\jc l/\ ∀a,a=o9 l r->post (stO a,[])
theorem qbV (hV:ND w0 35 HL):ND w0 17 uJ:=ND.mk hX (H:=[(30,ma),(36,QB)]) (HN:=[(35,HL)]) (hk:=[(3,ae (aK 17 3) qbT),(500009,qbS)]) C7 (by kernel_rfl) (by kernel_rfl) (.cons Jn (.cons X5 .nil)) (.cons hV .nil) (.loop (by decide) (qgN hX).T (.range (qgP hX) .nil)) (by
 intro ps R post hh
 obtain⟨l,r,rfl,rfl,hs,hp⟩:=hh
 (rw[<-qbU];delta Z7 VK ZY mr X7 eU lI Qr dV nz cK fR Z7y pP QH QI ny QJ QK nW qK Jx ye LK yf p9 pj Zs QL QM HO iM HP bQ jR ZD lH Z7X Zu E3 dm mA kJ xZ AK Z7W Zw qb)
 have hl:=hs.1
 have h1:=pS l
 have h2:=cv l
 have h3:(xQ (az l) r).length<=(az l).length:=by rw[(tE _ _).length_eq];exact List.length_filter_le _ _
 have lx:=Co l
 refine⟨l,rfl,rfl,hs,fun o ho=>⟨l,rfl,rfl,hs,fun m hm=>⟨l,m,r,o,rfl,by rw[hm];omega,fun h hh=>⟨l,r,rfl,rfl,hs,fun ow how=>⟨l,ow,o,h,r,rfl,⟨by rw[how];omega,by rw[ho];omega,by rw[hh,List.length_map,hm];omega,by rw[hh,hm];exact lx⟩,fun _ _ s hr=> ?_,fun _ _ hr=> ?_,fun _ _ hr=> ?_⟩⟩⟩⟩⟩
 ·have e:h=nu l:=by rw[hh,hm];rfl
  exact hp (s,0) (by unfold o9;rw[<-ho,<-how,<-e,hr];rfl)
 ·have e:h=nu l:=by rw[hh,hm];rfl
  exact hp ((0,0),200) (by unfold o9;rw[<-ho,<-how,<-e,hr];rfl)
 ·have e:h=nu l:=by rw[hh,hm];rfl
  exact hp ((0,0),200) (by unfold o9;rw[<-ho,<-how,<-e,hr];rfl))
end
end Pi
namespace Pi
open Go Go.Proofs
abbrev cd:=aC×ax
structure Tl where
 a:List aC
 p:List Pl
 h:List cd
 g:List cd
def tl0:Tl:=⟨[],[],[],[]⟩
def rE (o:a7):Pl:=(o.node,o.parent,o.name,o.dir)
def fA (on:Bool) (o:a7):Bool:=o.kind==0 || (o.kind==1&&on)
def fS (on:Bool) (o:a7):Bool:=on&& !(o.kind==2)
def VO (on:Bool) (s:ax) (t:Tl) (o:a7) (k:Nat):Tl:=
 ⟨if fA on o=true then t.a++[(s.1,s.2,(k:Int))] else t.a,if fA on o=true then t.p++[rE o] else t.p,
  if fS on o=true then t.h++[(o.node,s)] else t.h,if on=true then t.g++o.bT.map (fun d=>(o.node,d)) else t.g⟩
def FJ (on:Bool) (s:ax) (l:List a7) (t:Tl):Tl:=l.zipIdx.foldl (fun t p=>VO on s t p.1 p.2) t
def Yb (on:List ax) (t:Tl) (g:aj):Tl:=FJ (decide (g.s∈on)) g.s g.ops t
def CO (on:List ax) (l:List aj):Tl:=l.foldl (Yb on) tl0
theorem yg {on:Bool} {s:ax} {l:List a7} {t:Tl} {i:Nat} (h:i<l.length):FJ on s (l.take (i+1)) t=VO on s (FJ on s (l.take i) t) l[i] i:=by
 unfold FJ
 rw[List.take_succ_eq_append_getElem h,List.zipIdx_append,List.foldl_append]
 simp[List.length_take,Nat.min_eq_left (Nat.le_of_lt h)]
theorem yh {on:List ax} {l:List aj} {i:Nat} (h:i<l.length):CO on (l.take (i+1))=Yb on (CO on (l.take i)) l[i]:=by
 unfold CO
 rw[List.take_succ_eq_append_getElem h,List.foldl_append]
 rfl
def gV (l:List aj):Nat:=(l.map fun g=>g.ops.length).sum
theorem mg:gV []=0:=rfl
theorem mh (g:aj) (l:List aj):gV (g::l)=g.ops.length+gV l:=by simp[gV]
theorem yi (a b:List aj):gV (a++b)=gV a+gV b:=by simp[gV]
theorem AN (l:List aj) (i:Nat):gV (l.take i)<=gV l:=by
 have:=yi (l.take i) (l.drop i)
 rw[List.take_append_drop] at this
 omega
theorem HQ {l:List aj} {i:Nat} (h:i<l.length):gV (l.take (i+1))=gV (l.take i)+l[i].ops.length:=by
 rw[List.take_succ_eq_append_getElem h,yi,mh,mg]
 omega
theorem AO: ∀(l o:List aj),gV (l.foldl lF o)<=gV o+gV l
 | [],o=>by simp[mg]
 |g::r,o=>by
  have h1:=AO r (lF o g)
  have h2:gV (lF o g)<=gV o+g.ops.length:=by
   unfold lF
   split
   ·rw[yi,mh,mg]
    omega
   ·omega
  rw[List.foldl_cons,mh]
  omega
theorem HR (l:List aj):gV (az l)<=gV l:=by simpa [az,mg] using AO l []
def tJ (n:Nat) (t:Tl):Prop:=t.a.length=t.p.length/\t.a.length<=n/\t.h.length<=n/\t.g.length<=200*n
theorem tJ.zero:tJ 0 tl0:=⟨rfl,Nat.le_refl _,Nat.le_refl _,Nat.le_refl _⟩
theorem tJ.mono {n m:Nat} {t:Tl} (h:tJ n t) (hm:n<=m):tJ m t:=⟨h.1,by have:=h.2.1;omega,by have:=h.2.2.1;omega,by have:=h.2.2.2;omega⟩
theorem tJ.op {n:Nat} {t:Tl} (h:tJ n t) {on:Bool} {s:ax} {o:a7} {k:Nat} (hd:o.bT.length<=200):tJ (n+1) (VO on s t o k):=by
 obtain⟨h0,h1,h2,h3⟩:=h
 unfold tJ VO
 refine⟨?_,?_,?_,?_⟩
 ·dsimp only
  split<;>simp[h0]
 ·dsimp only
  split
  ·simp;omega
  ·omega
 ·dsimp only
  split
  ·simp;omega
  ·omega
 ·dsimp only
  split
  ·simp;omega
  ·omega
theorem tJ.ops {n:Nat} {t:Tl} (h:tJ n t) {on:Bool} {s:ax} {l:List a7} (hd: ∀o∈l,o.bT.length<=200): ∀i,i<=l.length->tJ (n+i) (FJ on s (l.take i) t)
 |0,_=>by simpa [FJ] using h
 |i+1,hi=>by
  rw[yg hi]
  exact(tJ.ops h hd i (by omega)).op (hd _ (List.getElem_mem hi))
theorem tJ.grp {n:Nat} {t:Tl} (h:tJ n t) {on:List ax} {g:aj} (hd: ∀o∈g.ops,o.bT.length<=200):tJ (n+g.ops.length) (Yb on t g):=by
 have:=tJ.ops h (on:=decide (g.s∈on)) (s:=g.s) hd g.ops.length (Nat.le_refl _)
 rwa [List.take_length] at this
theorem QN {s:ax} {k n:Int} {o:a7} (h:pK s k o=some n):o.bT.length<=200:=by
 unfold pK at h
 split at h
 ·cases h
 ·rename_i hb
  by_cases h2:o.kind=2
  ·rw[if_neg (by omega),if_neg (by omega),if_pos h2] at h
   split at h
   ·rename_i hd
    have:=hd.2
    unfold oZ at this
    rw[Bool.and_eq_true,decide_eq_true_eq] at this
    exact this.2
   ·cases h
  ·have:o.bT.length=0:=by
    simp only[Bool.not_eq_false,h9,o4,Bool.and_eq_true,Bool.or_eq_true,beq_iff_eq] at hb
    rcases hb.1.1.2 with h |h
    ·exact absurd h h2
    ·exact h
   omega
theorem E5 {P:a7->Prop} {s:ax} (hP: ∀k n o,pK s k o=some n->P o): ∀(l:List a7) (k:Int),jo s k l=true-> ∀o∈l,P o
 | [],_,_,_,h=>by cases h
 |o::r,k,h,x,hx=>by
  unfold jo at h
  split at h
  ·rename_i n hn
   rcases List.mem_cons.1 hx with rfl |hx
   ·exact hP k n _ hn
   ·exact E5 hP r _ h x hx
  ·cases h
theorem Jy {g:aj} (h:cQ g=true):jo g.s 0 g.ops=true:=by
 unfold cQ at h
 rw[Bool.and_eq_true] at h
 have h2:=h.2
 split at h2
 ·simp only[Bool.and_eq_true,beq_iff_eq] at h2
  rw[List.eq_nil_of_length_eq_zero h2.2]
  rfl
 ·rw[Bool.and_eq_true] at h2
  exact h2.2
theorem yj {g:aj} (h:cQ g=true): ∀o∈g.ops,o.bT.length<=200:=E5 (P:=fun o=>o.bT.length<=200) (fun _ _ _ h=>QN h) _ _ (Jy h)
theorem sC {g:aj} (h:cQ g=true):g.ops.length<=200:=by
 unfold cQ at h
 rw[Bool.and_eq_true] at h
 have h2:=h.2
 split at h2
 ·simp only[Bool.and_eq_true,beq_iff_eq] at h2
  omega
 ·rw[Bool.and_eq_true,decide_eq_true_eq] at h2
  exact h2.1.2
theorem Jz {on:List ax} {l:List aj} (hc: ∀g∈l,cQ g=true): ∀i,i<=l.length->tJ (gV (l.take i)) (CO on (l.take i))
 |0,_=>by simpa [CO,mg] using tJ.zero
 |i+1,hi=>by
  rw[yh hi,HQ hi]
  exact(Jz hc i (by omega)).grp (yj (hc _ (List.getElem_mem hi)))
def SmV (l:List aj):Prop:=gV l<=1000
end Pi
namespace Pi
open Go
def Rt (T:List Pl):Prop:=Uq T/\ ∀p∈T,xC p=true
theorem qbW {T:List Pl} (h:Rt T) (p:Pl):Rt (Hh T p):=by
 unfold Hh
 split
 ·exact h
 ·rename_i h0
  split
  ·rename_i hp
   refine⟨?_,fun q hq=> ?_⟩
   ·unfold Uq
    rw[List.map_append,List.nodup_append]
    refine⟨h.1,by simp,fun a ha b hb=> ?_⟩
    simp at hb
    subst hb
    intro e
    obtain⟨q,hq,hqa⟩:=List.mem_map.1 ha
    apply h0
    unfold dT
    rw[List.find?_isSome]
    exact⟨q,hq,by simp[hqa,e]⟩
   ·rcases List.mem_append.1 hq with hq |hq
    ·exact h.2 q hq
    ·simp at hq;subst hq;exact hp
  ·exact h
theorem QO: ∀(l T:List Pl),Rt T->Rt (l.foldl Hh T)
 | [],_,h=>h
 |p::r,_,h=>QO r _ (qbW h p)
theorem QP (l:List Pl):Rt (oa l):=QO l [] ⟨by simp[Uq],by simp⟩
theorem VP (T:List Pl) (p:Pl):(Hh T p).length<=T.length+1:=by
 unfold Hh
 split
 ·omega
 ·split
  ·simp
  ·omega
theorem JA: ∀(l T:List Pl),(l.foldl Hh T).length<=T.length+l.length
 | [],_=>by simp
 |p::r,T=>by
  have:=JA r (Hh T p)
  have:=VP T p
  simp only[List.foldl_cons,List.length_cons]
  omega
theorem CP (l:List Pl):(oa l).length<=l.length:=by simpa [oa] using JA l []
def LP (L:List Pl) (p:Pl):List UInt8:=if L.any (fun q=>decide (q.2.1=p.2.1)&&(q.2.2.1==p.2.2.1)&&Aq q.1 p.1) then(kB p.2.2.1 p.1.1 p.1.2.1 p.1.2.2).1 else p.2.2.1
def JB (T:List Pl) (live:List aC) (x:aC):List UInt8:=match dT T x with |some p=>LP (a8 T live) p |none=>[]
def HS (T:List Pl) (live:List aC) (x:aC):List (List UInt8):=match wy T x with |some w=>w.reverse.map (JB T live)|none=>[]
def JC (T:List Pl) (live:List aC) (x:aC):List UInt8:=oV (HS T live x)
abbrev It:=aC×List UInt8×Bool×Bool
def kL (T:List Pl) (live:List aC) (p:Pl):It:=(p.1,JC T live p.1,p.2.2.2,!decide (p.1∈live))
abbrev E6 (a b:It):Bool:=Op.bytesLess a.2.1 b.2.1
def jr (T:List Pl) (live:List aC):List It:=cN E6 ((a8 T live).map (kL T live))
section
variable {T:List Pl} {live:List aC}
theorem qbX {p:Pl} (h:xC p=true):(kB p.2.2.1 p.1.1 p.1.2.1 p.1.2.2).1=p.2.2.1++126::Am p.1.1 p.1.2.1 p.1.2.2:=by
 simp only[xC,Bool.and_eq_true] at h
 rw[kB,if_pos h.2,if_pos h.1]
theorem QQ {x:aC} {p:Pl} (h:marked T live x=true) (hp:dT T x=some p):p∈a8 T live:=by
 obtain⟨h1,h2⟩:=iZ hp
 exact List.mem_filter.2 ⟨h1,by rw[h2];exact h⟩
theorem QR {x:aC} {w:List aC} (h:Up T x w):HS T live x=w.reverse.map (JB T live):=by
 unfold HS
 rw[Hk.2 h]
theorem VQ {p:Pl} (h:p∈a8 T live):p∈T/\marked T live p.1=true:=by
 unfold a8 at h
 rw[List.mem_filter] at h
 exact h
end
end Pi
namespace Pi
open Go Go.Proofs
set_option maxRecDepth 100000
set_option maxHeartbeats 0
def fg (x:It):D:=itD x.1.1 x.1.2.1 x.1.2.2 x.2.1 x.2.2.1 x.2.2.2
end Pi
namespace Pi
open Go Go.Proofs
set_option maxRecDepth 100000
theorem qeQ (x:It):cX PR 72 (fg x)=true:=by
 obtain⟨⟨a,b,c⟩,d,e,f⟩:=x
 kernel_rfl
theorem vO (L:List Pl) {p:Pl} (h:xC p=true):(LP L p).length<=200:=by
 have h':=h
 simp only[xC,Bool.and_eq_true] at h'
 have hn:p.2.2.1.length<=32:=by
  have:=h'.2
  simp only[eL,decide_eq_true_eq] at this
  exact this.2.1
 unfold LP
 split
 ·rw[qbX h]
  have hr:=h'.1
  simp only[cC,decide_eq_true_eq] at hr
  have l1:=ga (n:=p.1.1) (by omega) (by omega)
  have l2:=ga (n:=p.1.2.1) (by omega) (by omega)
  have l3:=ga (n:=p.1.2.2) (by omega) (by omega)
  simp[Am]
  omega
 ·omega
theorem QS: ∀(l:List (List UInt8)),(∀s∈l,s.length<=200)->Uh l<=201*l.length
 | [],_=>by simp[Uh,oV]
 |s::r,h=>by
  have h1:=QS r fun x hx=>h x (by simp[hx])
  have h2:=h s (by simp)
  simp only[Uh,oV,List.flatMap_cons,List.length_append,List.length_cons] at h1⊢
  omega
theorem LQ {T:List Pl} {V:List aC} (hT:Rt T) {x:aC} {w:List aC} (hw:Up T x w):Uh (w.reverse.map (JB T V))<=201*T.length:=by
 have:=QS (w.reverse.map (JB T V)) fun s hs=>by
  obtain⟨u,hu,rfl⟩:=List.mem_map.1 hs
  obtain⟨w',h1,_⟩:=hw.sub u (by simpa using hu)
  obtain⟨p,hp⟩:=h1.at
  unfold JB
  rw[hp]
  exact vO _ (hT.2 p (iZ hp).1)
 have hl:=hw.len
 simp only[List.length_map,List.length_reverse] at this
 omega
section
variable {X:XF} {w0:World} (hX:db PR w0 X.cf)
include hX
end
end Pi
namespace Pi
open Go Go.Proofs
set_option maxRecDepth 100000
set_option maxHeartbeats 0
def qd {α:Type} (f:α->Bool) (l:List α):Int:=match l.findIdx? f with |some i=>(i:Int)|none=> -1
abbrev bxI (n:Nat) (x:aC):List (Nat×En):=[(n,⟨0,none,.box 50 [.d (.int .i64 x.1),.d (.int .i64 x.2.1),.d (.int .i64 x.2.2)]⟩)]
abbrev qbY (l:List Pl) (x:aC) (k:Int):S:=⟨20,[(0,ey l),(3,.ref 0 0 0),(5,iD k)],bxI 0 x⟩
def eC (l:List Pl) (x:aC):Int:=qd (fun p:Pl=>p.1==x) l
def qbZ:S->K (PX×S):=fun s post=> ∃l x,s=qbY l x 0/\l.length<=1000000/\(∀i:Int,i=eC l x->0<=i->post (.ret,⟨20,[(0,ey l),(4,iD i)],[]⟩))/\(eC l x= -1->post (.exit 0,⟨20,[(0,ey l)],[]⟩))
def yA (x:aC):En:=En.mk 0 none (Obj.box (50:TypeId) [P.d (D.int IntKind.i64 (Prod.fst x)),P.d (D.int IntKind.i64 (lE x)),P.d (D.int IntKind.i64 (lD x))])
def HT (x:aC):List (Nat×En):=[(0,yA x)]
def gW (l:List Pl):List D:=List.map bI l
def kS (l:List Pl):P:=P.d (D.sl 8 (gW l))
def sP (l:List Pl):Nat×P:=(0,kS l)
def nO (l:List Pl) (k:Int):D:=D.nth (gW l) (Zg k)
def Z84 (l:List Pl) (k:Int) (x:aC):Bool:=D.ah (D.ao (nO l k) 0)==Prod.fst x&&(D.ah (D.ao (nO l k) 1)==lE x&&true)&&(D.ah (D.ao (nO l k) 2)==lD x&&true)
noncomputable def qe (l:List Pl) (k:Int):Bool:=cX PR (104:TypeId) (nO l k)
def rO (l:List Pl):Nat:=List.length (gW l)
def E7 (k:Int) (l:List Pl):Bool:=decide ((0:Int)<=k/\k<(↑(rO l):Int))
def Yc (k:Int) (l:List Pl):Bool:=decide (k<(↑(rO l):Int))
theorem Yd (l:List Pl) (x:aC) (k:Int) (post:PX×S->Prop):(bif Yc k l then bif E7 k l then bif qe l k then bif Z84 l k x then post (PX.ret,S.mk 20 (sP l::C6 k) []) else bif Zj k then post (PX.normal,S.mk 20 (sP l::dG::Zn k) (HT x)) else False else False else False else post (PX.exit 0,S.mk 20 [sP l] []))=(aF [] [] 87 2 (qbY l x k)) post:=by kernel_rfl
def js (ar:List Pl):Nat:=List.length ar
def nA (ar:List Pl):Prop:=js ar<=1000000
theorem qb0 (l:List Pl) (x:aC) (post:P×List (Nat×En)->Prop):(∃(ar:List Pl) (aM:aC),S.mk 20 (sP l::dG::ZL) (HT x)=S.mk 20 (sP ar::dG::ZL) (HT aM)/\nA ar/\(∀(i:Int),i=eC ar aM->(0:Int)<=i->post (P.d (Zs i),[]))/\(eC ar aM=(-1:Int)->n9 post))=(aH [] [(2,ae (aK 87 2) qbZ)] 87 [ey l,.d (bH x)] []) post:=by kernel_rfl
def QT:bm:=fun ps R post=> ∃l x,ps=[ey l,.d (bH x)]/\R=[]/\l.length<=1000000/\post (iD (eC l x),[])
abbrev AP (z:Bool) (l:List Pl):List (Nat×En):=[(0,⟨0,some 0,.arr 104 z (l.map bI)⟩)]
abbrev qb1 (z:Bool) (l:List Pl) (n:Nat) (x:aC) (k:Int):S:=⟨20,[(0,.sl 0 0 n),(3,.ref 1 0 0),(5,iD k)],AP z l++bxI 1 x⟩
def QU:S->K (PX×S):=fun s post=> ∃z l x,s=qb1 z l l.length x 0/\l.length<=1000000/\(∀i:Int,i=eC l x->0<=i->post (.ret,⟨20,[(0,.sl 0 0 l.length),(4,iD i)],AP z l⟩))/\(eC l x= -1->post (.exit 0,⟨20,[(0,.sl 0 0 l.length)],AP z l⟩))
def ML (x:aC):List (Nat×En):=[(1,yA x)]
def LR (z:Bool) (l:List Pl):Nat×En:=(0,En.mk 0 (some 0) (Obj.arr (104:TypeId) z (gW l)))
def C9 (z:Bool) (l:List Pl):List (Nat×En):=[LR z l]
def FK (k:Int) (l:List Pl):Bool:=decide (Zg k<rO l)
theorem QV (z:Bool) (l:List Pl) (n:Nat) (x:aC) (k:Int) (post:PX×S->Prop):(bif QA k n then bif nN k n then bif FK k l then bif qe l k then bif Z84 l k x then post (PX.ret,S.mk 20 (qJ n::C6 k) (C9 z l)) else bif Zj k then post (PX.normal,S.mk 20 (qJ n::ME k) (LR z l::ML x)) else False else False else False else False else post (PX.exit 0,S.mk 20 [qJ n] (C9 z l)))=(aF [] [] 87 2 (qb1 z l n x k)) post:=by kernel_rfl
def sE (ar:List Pl):P:=P.sl 0 0 (js ar)
theorem VR (z:Bool) (l:List Pl) (n:Nat) (x:aC) (post:P×List (Nat×En)->Prop):(∃(LS:Bool) (ar:List Pl) (aM:aC),S.mk 20 (qJ n::Lq) (LR z l::ML x)=S.mk 20 ((0,sE ar)::Lq) (LR LS ar::ML aM)/\nA ar/\(∀(i:Int),i=eC ar aM->(0:Int)<=i->post (P.d (Zs i),C9 LS ar))/\(eC ar aM=(-1:Int)->post (I0,C9 LS ar)))=(aH [] [(2,ae (aK 87 2) QU)] 87 [.sl 0 0 n,.d (bH x)] (AP z l)) post:=by kernel_rfl
def QW:bm:=fun ps R post=> ∃z l x,ps=[.sl 0 0 l.length,.d (bH x)]/\R=AP z l/\l.length<=1000000/\post (iD (eC l x),AP z l)
abbrev hsH (l:List aC) (x:aC) (k:Int):S:=⟨18,[(0,dx l),(3,.ref 0 0 0),(5,iD k)],bxI 0 x⟩
def qb2:S->K (PX×S):=fun s post=> ∃l x,s=hsH l x 0/\l.length<=1000000/\(x∈l->post (.ret,⟨18,[(0,dx l),(4,.d (.bool true))],[]⟩))/\(x∉l->post (.exit 0,⟨18,[(0,dx l)],[]⟩))
def E8:List (Nat×P):=[(4,ZM)]
def CQ (l:List aC):Nat×P:=(0,nr l)
def Z8g (l:List aC) (k:Int) (x:aC):Bool:=Jc l k==Prod.fst x&&(Jb l k==lE x&&true)&&(Ja l k==lD x&&true)
theorem Ye (l:List aC) (x:aC) (k:Int) (post:PX×S->Prop):(bif UD k l then bif Lf k l then bif Az l k then bif Z8g l k x then post (PX.ret,S.mk 18 (CQ l::E8) []) else bif Zj k then post (PX.normal,S.mk 18 (CQ l::dG::Zn k) (HT x)) else False else False else False else post (PX.exit 0,S.mk 18 [CQ l] []))=(aF [] [] 91 2 (hsH l x k)) post:=by kernel_rfl
def uK (ar:List aC):Prop:=List.length ar<=1000000
theorem qb3 (l:List aC) (x:aC) (post:P×List (Nat×En)->Prop):(∃(ar:List aC) (aM:aC),S.mk 18 (CQ l::dG::ZL) (HT x)=S.mk 18 (CQ ar::dG::ZL) (HT aM)/\uK ar/\(aM∈ar->ZN post)/\(¬aM∈ar->Z4 post))=(aH [] [(2,ae (aK 91 2) qb2)] 91 [dx l,.d (bH x)] []) post:=by kernel_rfl
def QX:bm:=fun ps R post=> ∃l x,ps=[dx l,.d (bH x)]/\R=[]/\l.length<=1000000/\post (.d (.bool (decide (x∈l))),[])
end Pi
namespace Pi
open Go Go.Proofs
set_option maxRecDepth 100000
theorem E9 {α:Type} {f:α->Bool} {l:List α} {i:Nat} {x:α} (h:l[i]?=some x) (hf:f x=true) (hb: ∀y∈l.take i,f y=false):qd f l=(i:Int):=by
 have hi:i<l.length:=(List.getElem?_eq_some_iff.1 h).1
 have:l.findIdx? f=some i:=by
  rw[List.findIdx?_eq_some_iff_getElem]
  refine⟨hi,by rw[(List.getElem?_eq_some_iff.1 h).2];exact hf,fun j hj=> ?_⟩
  rw[hb _ (List.mem_take_iff_getElem.2 ⟨j,by omega,rfl⟩)]
  simp
 unfold qd
 rw[this]
theorem JD {α:Type} {f:α->Bool} {l:List α} (h: ∀x∈l,f x=false):qd f l= -1:=by
 have:l.findIdx? f=none:=by
  rw[List.findIdx?_eq_none_iff]
  exact h
 unfold qd
 rw[this]
theorem rF {α:Type} (f:α->Bool) (l:List α):(∃(i:Nat) (x:α),l[i]?=some x/\f x=true/\qd f l=(i:Int))\/(qd f l= -1/\ ∀x∈l,f x=false):=by
 cases h:l.findIdx? f with
 |some i=>
  obtain⟨hi,hf,_⟩:=List.findIdx?_eq_some_iff_getElem.1 h
  exact .inl ⟨i,l[i],List.getElem?_eq_getElem hi,hf,by unfold qd;rw[h]⟩
 |none=>exact .inr ⟨by unfold qd;rw[h],List.findIdx?_eq_none_iff.1 h⟩
theorem getD_some {α:Type} {l:List α} {k:Nat} (h:k<l.length) (d:α):l[k]?=some (l.getD k d):=by
 rw[List.getD_eq_getElem?_getD,List.getElem?_eq_getElem h]
 rfl
section
variable {X:XF}
theorem LD.scan {H:List (FuncId×bm)} {hk:List (Nat×(S->K (PX×S)))} {f id:Nat} {g:S->K (PX×S)} (hu:uniq PR f=true) (hc:bW (pI f) (bt PR f id)=true) (hH:HD X H) (hl:OB X f hk)
  {A α:Type} (hd:A->Int->S) (nU:A->List α) (d:α) (t:A->α->Bool) (C:A->Prop) (rt:A->Int->S) (ex:A->S)
  (hr: ∀a (k:Int) post,C a->(nU a).length<=1000000->0<=k->(k<(nU a).length->k.toNat<(nU a).length->(t a ((nU a).getD k.toNat d)=true->post (.ret,rt a k))->(t a ((nU a).getD k.toNat d)=false->post (.normal,hd a (k+1)))->aF H hk f id (hd a k) post))
  (hx: ∀a (k:Int) post,C a-> ¬k<(nU a).length->post (.exit 0,ex a)->aF H hk f id (hd a k) post)
  (hg: ∀s post,g s post-> ∃a,s=hd a 0/\C a/\(nU a).length<=1000000/\(∀i:Int,i=qd (t a) (nU a)->0<=i->post (.ret,rt a i))/\(qd (t a) (nU a)= -1->post (.exit 0,ex a))):LD X f id (ae (aK f id) g):=
 LD.par hu hc hH hl (A:=A) (B:=Int) hd (fun a k=>C a/\(nU a).length<=1000000/\0<=k/\k.toNat<=(nU a).length/\ ∀y∈(nU a).take k.toNat,t a y=false) (fun a k=>((nU a).length-k).toNat)
  (fun a x=>(∃i:Int,i=qd (t a) (nU a)/\0<=i/\x=(.ret,rt a i))\/(qd (t a) (nU a)= -1/\x=(.exit 0,ex a)))
  (by
   rintro a k ⟨h1,h2,h3,h4,h5⟩
   by_cases hk:k<(nU a).length
   ·have eb:k.toNat<(nU a).length:=by omega
    refine hr a k _ h1 h2 h3 hk eb (fun ht=> .inl ⟨k,?_,h3,rfl⟩) fun ht=>⟨((nU a).length-(k+1)).toNat,by omega,k+1,rfl,⟨h1,h2,by omega,by omega,fun y hy=> ?_⟩,rfl⟩
    ·rw[E9 (getD_some eb d) ht h5]
     omega
    ·rw[show(k+1).toNat=k.toNat+1 by omega,List.take_add_one,getD_some eb d] at hy
     rcases List.mem_append.1 hy with hy |hy
     ·exact h5 y hy
     ·simp at hy
      rw[hy]
      simpa using ht
   ·refine hx a k _ h1 hk (.inr ⟨JD fun y hy=>h5 y ?_,rfl⟩)
    rw[List.take_of_length_le (by omega)]
    exact hy)
  (by
   intro s post h
   obtain⟨a,rfl,h1,h2,h3,h4⟩:=hg s post h
   refine⟨a,0,rfl,⟨h1,h2,by simp,by simp,by simp⟩,?_⟩
   rintro x (⟨i,h5,h6,rfl⟩| ⟨h5,rfl⟩)
   ·exact h3 i h5 h6
   ·exact h4 h5)
theorem qb4 {l:List It} {i:Nat} (h:i<l.length) (d:It):D.nth (l.map fg) i=fg (l.getD i d):=by
 rw[ay fg l i h]
 simp[List.getD_eq_getElem?_getD,h]
def it0:It:=((0,0,0),[],false,false)
theorem JE {α:Type} (f:α->Bool) (l:List α):decide (qd f l>=0)=l.any f:=by
 rcases rF f l with⟨i,x,h1,h2,h3⟩| ⟨h1,h2⟩
 ·rw[h3,List.any_eq_true.2 ⟨x,List.mem_of_getElem? h1,h2⟩]
  simp
 ·rw[h1]
  cases h:l.any f with
  |false=>rfl
  |true=>
   obtain⟨x,hx,hf⟩:=List.any_eq_true.1 h
   rw[h2 x hx] at hf
   cases hf
theorem CR (x y:aC):(x.1==y.1&&(x.2.1==y.2.1&&true)&&(x.2.2==y.2.2&&true))=(x==y):=by
 rw[Bool.eq_iff_iff]
 obtain⟨a,b,c⟩:=x
 obtain⟨d,e,f⟩:=y
 simp[and_assoc]
theorem VS:LD X 87 2 (ae (aK 87 2) qbZ):=
 LD.scan (H:=[]) (hk:=[]) (by kernel_rfl) (by kernel_rfl) .nil .nil
  (A:=List Pl×aC) (fun a k=>qbY a.1 a.2 k) (·.1) su (fun a p=>p.1==a.2) (fun _=>True)
  (fun a i=>⟨20,[(0,ey a.1),(4,iD i)],[]⟩) (fun a=>⟨20,[(0,ey a.1)],[]⟩)
  (by
   rintro⟨l,x⟩ k post _ hm h0 hk eb ht hf
   dsimp only at*
   (rw[<-Yd];delta lD lE yA HT Zm Zn bQ dG Za Z9 Zj Zs vH C6 gW kS sP Zg nO Z84 qe rO E7 Yc)
   simp only[List.length_map]
   rw[iy eb]
   refine fw (kx hk) (bp ⟨h0,hk⟩ (aq (gL _) (aw (fun h=>ht ?_) fun h=>aq (pZ (by omega) (by omega)) (hf ?_))))
   ·rw[<-CR];exact h
   ·rw[<-CR];exact h)
  (by
   rintro⟨l,p⟩ k post _ hk hp
   dsimp only at*
   (rw[<-Yd];delta lD lE yA HT Zm Zn bQ dG Za Z9 Zj Zs vH C6 gW kS sP Zg nO Z84 qe rO E7 Yc)
   simp only[List.length_map]
   exact kq (ky hk) hp)
  (by
   rintro s post ⟨l,p,rfl,hm,h1,h2⟩
   exact⟨(l,p),rfl,trivial,hm,h1,h2⟩)
theorem Yf:FD X 87 QT:=FD.mk (H:=[]) (hk:=[(2,ae (aK 87 2) qbZ)]) (by kernel_rfl) .nil (.cons VS .nil) (by
 intro ps R post hh
 obtain⟨l,x,rfl,rfl,hm,hp⟩:=hh
 (rw[<-qb0];delta I0 n9 Zs js nA lD lE yA HT Z7 ZL bQ dG gW kS sP)
 refine⟨l,x,rfl,hm,fun i hi h0=> ?_,fun h=> ?_⟩
 ·rw[hi];exact hp
 ·rw[h] at hp;exact hp)
theorem QY:LD X 87 2 (ae (aK 87 2) QU):=
 LD.scan (H:=[]) (hk:=[]) (by kernel_rfl) (by kernel_rfl) .nil .nil
  (A:=List Pl×aC×Bool) (fun a k=>qb1 a.2.2 a.1 a.1.length a.2.1 k) (·.1) su (fun a p=>p.1==a.2.1) (fun _=>True)
  (fun a i=>⟨20,[(0,.sl 0 0 a.1.length),(4,iD i)],AP a.2.2 a.1⟩) (fun a=>⟨20,[(0,.sl 0 0 a.1.length)],AP a.2.2 a.1⟩)
  (by
   rintro⟨l,x,z⟩ k post _ hm h0 hk eb ht hf
   dsimp only at*
   (rw[<-QV];delta lD lE yA ML gW LR Zm Zn iM ME Za Z9 Zj C9 Zs vH C6 Zz qJ Zg nO Z84 qe rO FK nN QA)
   rw[iy eb]
   refine fw (kx hk) (bp ⟨h0,hk⟩ (aq (kx (by rw[List.length_map];exact eb)) (aq (gL _) (aw (fun h=>ht ?_) fun h=>aq (pZ (by omega) (by omega)) (hf ?_)))))
   ·rw[<-CR];exact h
   ·rw[<-CR];exact h)
  (by
   rintro⟨l,p,z⟩ k post _ hk hp
   dsimp only at*
   (rw[<-QV];delta lD lE yA ML gW LR Zm Zn iM ME Za Z9 Zj C9 Zs vH C6 Zz qJ Zg nO Z84 qe rO FK nN QA)
   exact kq (ky hk) hp)
  (by
   rintro s post ⟨z,l,p,rfl,hm,h1,h2⟩
   exact⟨(l,p,z),rfl,trivial,hm,h1,h2⟩)
theorem QZ:FD X 87 QW:=FD.mk (H:=[]) (hk:=[(2,ae (aK 87 2) QU)]) (by kernel_rfl) .nil (.cons QY .nil) (by
 intro ps R post hh
 obtain⟨z,l,x,rfl,rfl,hm,hp⟩:=hh
 (rw[<-VR];delta I0 gW LR C9 Zs js nA sE lD lE yA ML Z7 ZL iM Lq Zz qJ)
 refine⟨z,l,x,rfl,hm,fun i hi h0=> ?_,fun h=> ?_⟩
 ·rw[hi];exact hp
 ·rw[h] at hp;exact hp)
theorem JF {α:Type} {f:α->Bool} {l:List α}:0<=qd f l↔ ∃x∈l,f x=true:=by
 rcases rF f l with⟨i,x,h1,h2,h3⟩| ⟨h1,h2⟩
 ·rw[h3]
  exact⟨fun _=>⟨x,List.mem_of_getElem? h1,h2⟩,fun _=>by omega⟩
 ·rw[h1]
  exact⟨fun h=>by omega,fun⟨x,hx,hf⟩=>by rw[h2 x hx] at hf;cases hf⟩
theorem VT:LD X 91 2 (ae (aK 91 2) qb2):=
 LD.scan (H:=[]) (hk:=[]) (by kernel_rfl) (by kernel_rfl) .nil .nil
  (A:=List aC×aC) (fun a k=>hsH a.1 a.2 k) (·.1) (0,0,0) (fun a p=>p==a.2) (fun _=>True)
  (fun a i=>⟨18,[(0,dx a.1),(4,.d (.bool true))],[]⟩) (fun a=>⟨18,[(0,dx a.1)],[]⟩)
  (by
   rintro⟨l,x⟩ k post _ hm h0 hk eb ht hf
   dsimp only at*
   (rw[<-Ye];delta lD lE yA HT Zm Zn bQ dG Za Z9 Zj ZM E8 nr CQ Zg Ja Jb Jc Z8g Az tB Lf UD)
   simp only[List.length_map]
   rw[qaO eb]
   refine fw (kx hk) (bp ⟨h0,hk⟩ (aq (rj _) (aw (fun h=>ht ?_) fun h=>aq (pZ (by omega) (by omega)) (hf ?_))))
   ·rw[<-CR];exact h
   ·rw[<-CR];exact h)
  (by
   rintro⟨l,p⟩ k post _ hk hp
   dsimp only at*
   (rw[<-Ye];delta lD lE yA HT Zm Zn bQ dG Za Z9 Zj ZM E8 nr CQ Zg Ja Jb Jc Z8g Az tB Lf UD)
   simp only[List.length_map]
   exact kq (ky hk) hp)
  (by
   rintro s post ⟨l,x,rfl,hm,h1,h2⟩
   refine⟨(l,x),rfl,trivial,hm,fun i hi h0=>h1 ?_,fun h=>h2 fun hx=> ?_⟩
   ·rw[hi] at h0
    obtain⟨y,hy,he⟩:=JF.1 h0
    have:y=x:=by simpa using he
    exact this▸hy
   ·have:0<=qd (fun p=>p==x) l:=JF.2 ⟨x,hx,by simp⟩
    dsimp only at h
    omega)
theorem Yg:FD X 91 QX:=FD.mk (H:=[]) (hk:=[(2,ae (aK 91 2) qb2)]) (by kernel_rfl) .nil (.cons VT .nil) (by
 intro ps R post hh
 obtain⟨l,x,rfl,rfl,hm,hp⟩:=hh
 (rw[<-qb3];delta Z3 Z4 ZM ZN uK lD lE yA HT Z7 ZL bQ dG nr CQ)
 exact⟨l,x,rfl,hm,fun h=>xy hp (by simp[h]),fun h=>xy hp (by simp[h])⟩)
end
end Pi
namespace Pi
open Go Go.Proofs
set_option maxRecDepth 100000
set_option maxHeartbeats 0
def yB (l:List Pl) (ar:List Pl) (aM:aC):D:=D.nth (gW l) (Int.toNat (eC ar aM))
def Z8q (l:List Pl) (ar:List Pl) (aM:aC):D:=D.int IntKind.i64 (D.ah (D.ao (yB l ar aM) 5))
def Z8p (l:List Pl) (ar:List Pl) (aM:aC):D:=D.int IntKind.i64 (D.ah (D.ao (yB l ar aM) 4))
def Z8o (l:List Pl) (ar:List Pl) (aM:aC):D:=D.int IntKind.i64 (D.ah (D.ao (yB l ar aM) 3))
def Z8r (l:List Pl) (ar:List Pl) (aM:aC):Nat×En:=(0,En.mk 0 none (Obj.box (50:TypeId) [P.d (Z8o l ar aM),P.d (Z8p l ar aM),P.d (Z8q l ar aM)]))
def Z8m (ar:List Pl) (aM:aC) (l:List Pl):Bool:=decide ((0:Int)<=eC ar aM/\eC ar aM<(↑(rO l):Int))
def Z8l (ar:List Pl) (aM:aC):Bool:=decide (eC ar aM<(0:Int))
def Z8k (x:aC) (y:aC):Bool:=Prod.fst x==Prod.fst y&&(lE x==lE y&&true)&&(lD x==lD y&&true)
abbrev wiL (z:Bool) (l:List Pl) (n:Nat) (x y:aC) (k:Int):S:=⟨28,[(0,.sl 0 0 n),(4,.ref 1 0 0),(5,.ref 2 0 0),(7,iD k)],AP z l++bxI 1 x++bxI 2 y⟩
def qb5:S->K (PX×S):=fun s post=> ∃z l x y,s=wiL z l l.length x y 0/\l.length<=1000000/\(∀b,b=within l x y->post (.ret,⟨28,[(0,.sl 0 0 l.length),(6,.d (.bool b))],AP z l⟩))/\(within l x y=true->post (.exit 0,⟨28,[(0,.sl 0 0 l.length)],AP z l⟩))
def Da (ar:List Pl) (aM:aC):D:=D.nth (gW ar) (Int.toNat (eC ar aM))
def Z8t (ar:List Pl) (aM:aC):Bool:=decide (Int.toNat (eC ar aM)<rO ar)
theorem qeR (z:Bool) (l:List Pl) (n:Nat) (x y:aC) (k:Int) (post:PX×S->Prop):(bif decide (k<=(↑n:Int)) then bif Z8k x y then post (PX.ret,S.mk 28 [qJ n,(6,ZM)] (C9 z l)) else∃(LS:Bool) (ar:List Pl) (aM:aC),Zz n::kW x=sE ar::kW aM/\C9 z l=C9 LS ar/\nA ar/\bif Z8l ar aM then post (PX.ret,S.mk 28 (qJ n::Z47) (C9 LS ar)) else bif decide ((0:Int)<=eC ar aM/\eC ar aM<(↑n:Int)) then bif Z8t ar aM then bif cX PR (104:TypeId) (Da ar aM) then bif Zj k then post (PX.normal,S.mk 28 (qJ n::HJ::(5,P.ref 2 0 0)::ZJ k) [LR LS ar,(1,En.mk 0 none (Obj.box (50:TypeId) [P.d (D.int IntKind.i64 (D.ah (D.ao (Da ar aM) 3))),P.d (D.int IntKind.i64 (D.ah (D.ao (Da ar aM) 4))),P.d (D.int IntKind.i64 (D.ah (D.ao (Da ar aM) 5)))])),(2,yA y)]) else False else False else False else False else post (PX.exit 0,S.mk 28 [qJ n] (C9 z l)))=(aF [(87,QW)] [] 86 2 (wiL z l n x y k)) post:=by kernel_rfl
def Z8v:List (Nat×P):=HJ::(5,P.ref 2 0 0)::ZZ
theorem qb6 (z:Bool) (l:List Pl) (n:Nat) (x y:aC) (post:P×List (Nat×En)->Prop):(∃(LS:Bool) (ar:List Pl) (aM:aC) (Uo:aC),S.mk 28 (qJ n::Z8v) [LR z l,(1,yA x),(2,yA y)]=S.mk 28 ((0,sE ar)::Z8v) [LR LS ar,(1,yA aM),(2,yA Uo)]/\nA ar/\(∀(b:Bool),b=within ar aM Uo->post (iz b,C9 LS ar))/\(within ar aM Uo=true->post (ZM,C9 LS ar)))=(aH [] [(2,ae (aK 86 2) qb5)] 86 [.sl 0 0 n,.d (bH x),.d (bH y)] (AP z l)) post:=by kernel_rfl
def qb7:bm:=fun ps R post=> ∃z l x y,ps=[.sl 0 0 l.length,.d (bH x),.d (bH y)]/\R=AP z l/\l.length<=1000000/\ ∀b,b=within l x y->post (.d (.bool b),AP z l)
abbrev qb8 (l:List Pl) (x:aC) (k:Int):S:=⟨39,[(0,ey l),(3,.ref 0 0 0),(5,iD k)],bxI 0 x⟩
def gRo:S->K (PX×S):=fun s post=> ∃l x,s=qb8 l x 0/\l.length<=1000000/\(∀b,b=kD l x->post (.ret,⟨39,[(4,.d (.bool b))],[]⟩))/\(kD l x=false->post (.exit 0,⟨39,[],[]⟩))
def Z8w (post:PX×S->Prop):Prop:=post (PX.ret,S.mk 39 Zi [])
theorem qeS (l:List Pl) (x:aC) (k:Int) (post:PX×S->Prop):(bif decide (k<=(↑(rO l):Int)) then∃(ar:List Pl) (aM:aC),kS l::kW x=kS ar::kW aM/\Zw/\nA ar/\bif Z8l ar aM then Z8w post else bif Z8m ar aM l then bif cX PR (104:TypeId) (yB l ar aM) then bif D.ah (D.ao (yB l ar aM) 3)==(0:Int)&&(D.ah (D.ao (yB l ar aM) 4)==(0:Int)&&true)&&(D.ah (D.ao (yB l ar aM) 5)==(0:Int)&&true) then post (PX.ret,S.mk 39 E8 []) else∃(gq:List Pl) (x:aC),[kS l,P.d (D.agg [Z8o l ar aM,Z8p l ar aM,Z8q l ar aM])]=kS gq::kW x/\Zw/\nA gq/\bif Z8l gq x then Z8w post else bif Z8m gq x l then bif cX PR (104:TypeId) (yB l gq x) then bif !D.fI (D.ao (yB l gq x) 7) then Z8w post else bif Zj k then post (PX.normal,S.mk 39 (sP l::dG::Zn k) [Z8r l ar aM]) else False else False else False else False else False else post (PX.exit 0,S.mk 39 [] []))=(aF [(87,QT)] [] 119 2 (qb8 l x k)) post:=by kernel_rfl
theorem qeT (l:List Pl) (x:aC) (post:P×List (Nat×En)->Prop):(∃(ar:List Pl) (aM:aC),S.mk 39 (sP l::dG::ZL) (HT x)=S.mk 39 (sP ar::dG::ZL) (HT aM)/\nA ar/\(∀(b:Bool),b=kD ar aM->post (iz b,[]))/\(kD ar aM=false->Z4 post))=(aH [] [(2,ae (aK 119 2) gRo)] 119 [ey l,.d (bH x)] []) post:=by kernel_rfl
def qb9:bm:=fun ps R post=> ∃l x,ps=[ey l,.d (bH x)]/\R=[]/\l.length<=1000000/\ ∀b,b=kD l x->post (.d (.bool b),[])
def Fa:bm:=fun ps R post=> ∃l x,ps=[.sl 0 0 l.length,.d (bH x)]/\R=AP false l/\l.length<=1000000/\post (iD (eC l x),AP false l)
abbrev riH (l o:List Pl) (n:Nat) (k:Int):S:=⟨43,[(0,ey l),(3,.sl 0 0 n),(4,iD k)],[(0,⟨0,none,.arr 104 false (o.map bI)⟩)]⟩
def gRi:S->K (PX×S):=fun s post=> ∃l,s=riH l [] 0 0/\l.length<=1000000/\post (.exit 0,⟨43,[(3,.sl 0 0 (oa l).length)],[(0,⟨0,none,.arr 104 false ((oa l).map bI)⟩)]⟩)
def MN (ar:List Pl):En:=En.mk 0 none (Obj.arr (104:TypeId) false (gW ar))
def FL (ar:List Pl):List (Nat×En):=[(0,MN ar)]
def Z8H (k:Int) (post:PX×S->Prop) (l:List Pl) (n:Nat) (ar:List Pl):Prop:=bif Zj k then post (PX.normal,S.mk 43 (sP l::(3,Zz n)::AF k) (FL ar)) else False
def LU (l:List Pl) (k:Int):D:=D.int IntKind.i64 (D.ah (D.ao (nO l k) 2))
def LV (l:List Pl) (k:Int):D:=D.int IntKind.i64 (D.ah (D.ao (nO l k) 1))
def LW (l:List Pl) (k:Int):D:=D.int IntKind.i64 (D.ah (D.ao (nO l k) 0))
def VU (l:List Pl) (k:Int):List D:=[LW l k,LV l k,LU l k,D.int IntKind.i64 (D.ah (D.ao (nO l k) 3)),D.int IntKind.i64 (D.ah (D.ao (nO l k) 4)),D.int IntKind.i64 (D.ah (D.ao (nO l k) 5)),D.str (D.eT (D.ao (nO l k) 6)),D.bool (D.fI (D.ao (nO l k) 7))]
def Z8E (n:Nat) (ar:List Pl) (l:List Pl) (k:Int):En:=En.mk 0 none (Obj.arr (104:TypeId) false (List.take n (gW ar)++[D.agg (VU l k)]))
def Z8D (n:Nat) (l:List Pl) (k:Int):Nat:=n+List.length [D.agg (VU l k)]
def VW (o:List Pl):List (Nat×En):=[(0,En.mk 0 (some 0) (Obj.arr (104:TypeId) false (gW o)))]
def HU (l:List Pl) (k:Int):P:=P.d (D.agg [LW l k,LV l k,LU l k])
theorem qgQ (l o:List Pl) (n:Nat) (k:Int) (post:PX×S->Prop):(bif Yc k l then bif E7 k l then bif qe l k then∃(t:Int) (r:Int) (i:Int),[HU l k]=G6 t r i/\Zw/\bif cC t r i then bif E7 k l then bif qe l k then∃(s:List UInt8),[P.d (D.str (D.eT (D.ao (nO l k) 6)))]=xw s/\Zw/\bif eL s then bif E7 k l then bif qe l k then∃(ar:List Pl) (x:aC),[Zz n,HU l k]=sE ar::kW x/\VW o=VW ar/\nA ar/\bif Z8l ar x then bif E7 k l then bif qe l k then bif Nat.ble n (rO ar)&&aT (Z8D n l k) 72 then bif Zj k then post (PX.normal,S.mk 43 (sP l::(3,P.sl 0 0 (Z8D n l k))::AF k) [(0,Z8E n ar l k)]) else False else False else False else False else Z8H k post l n ar else False else False else Z8H k post l n o else False else False else Z8H k post l n o else False else False else post (PX.exit 0,S.mk 43 [(3,Zz n)] (FL o)))=(aF [(151,l0),(138,An),(87,Fa)] [] 118 3 (riH l o n k)) post:=by kernel_rfl
def Z8K (ar:List Pl):Nat×En:=(0,En.mk 0 none (Obj.arr (104:TypeId) false (List.map bI (oa ar))))
def yC:En:=En.mk 0 none (Obj.arr (104:TypeId) false [])
def Z8J (l:List Pl):S:=S.mk 43 (sP l::XJ) [(0,yC)]
theorem qeU (l:List Pl) (post:P×List (Nat×En)->Prop):(∃(ar:List Pl),Z8J l=Z8J ar/\nA ar/\post (P.sl 0 0 (List.length (oa ar)),[Z8K ar]))=(aH [] [(3,ae (aK 118 3) gRi)] 118 [ey l] []) post:=by kernel_rfl
def hRi:bm:=fun ps R post=> ∃l,ps=[ey l]/\R=[]/\l.length<=1000000/\post (.sl 0 0 (oa l).length,[(0,⟨0,none,.arr 104 false ((oa l).map bI)⟩)])
abbrev bxP (n:Nat) (p:Pl):List (Nat×En):=[(n,⟨0,none,.box 104 [.d (.int .i64 p.1.1),.d (.int .i64 p.1.2.1),.d (.int .i64 p.1.2.2),.d (.int .i64 p.2.1.1),.d (.int .i64 p.2.1.2.1),.d (.int .i64 p.2.1.2.2),.d (.str p.2.2.1),.d (.bool p.2.2.2)]⟩)]
abbrev naH (l:List Pl) (p:Pl) (k:Int):S:=⟨54,[(0,ey l),(3,.ref 0 0 0),(5,iD k)],bxP 0 p⟩
def MO (p q:Pl):Bool:=decide (q.2.1=p.2.1)&&(q.2.2.1==p.2.2.1)&&Aq q.1 p.1
def gNa:S->K (PX×S):=fun s post=> ∃l p,s=naH l p 0/\l.length<=1000000/\(l.any (MO p)=true->post (.ret,⟨54,[(3,.ref 0 0 0),(4,sD (kB p.2.2.1 p.1.1 p.1.2.1 p.1.2.2).1)],bxP 0 p⟩))/\(l.any (MO p)=false->post (.exit 0,⟨54,[(3,.ref 0 0 0)],bxP 0 p⟩))
def MP (p:Pl):List UInt8:=Prod.fst (Prod.snd (Prod.snd p))
def Q0 (p:Pl):Int:=Prod.snd (Prod.snd (Prod.fst (Prod.snd p)))
def Q5 (p:Pl):Int:=Prod.fst (Prod.snd (Prod.fst (Prod.snd p)))
def Q6 (p:Pl):Int:=Prod.fst (Prod.fst (Prod.snd p))
def VX (p:Pl):D:=D.int IntKind.i64 (Prod.snd (Prod.snd (Prod.fst p)))
def VY (p:Pl):D:=D.int IntKind.i64 (Prod.fst (Prod.snd (Prod.fst p)))
def VZ (p:Pl):D:=D.int IntKind.i64 (Prod.fst (Prod.fst p))
def Q7 (p:Pl):List (Nat×En):=[(0,En.mk 0 none (Obj.box (104:TypeId) [P.d (VZ p),P.d (VY p),P.d (VX p),P.d (D.int IntKind.i64 (Q6 p)),P.d (D.int IntKind.i64 (Q5 p)),P.d (D.int IntKind.i64 (Q0 p)),P.d (D.str (MP p)),P.d (D.bool (Prod.snd (Prod.snd (Prod.snd p))))]))]
def Z8V (k:Int) (post:PX×S->Prop) (l:List Pl) (p:Pl):Prop:=bif Zj k then post (PX.normal,S.mk 54 (sP l::dG::Zn k) (Q7 p)) else False
def V0 (t:Int) (r:Int) (i:Int) (t':Int) (r':Int) (i':Int):List P:=P.d (D.agg (Zs t::Zs r::ZC i))::G6 t' r' i'
def Z8S (p:Pl):List P:=[P.d (D.agg [VZ p,VY p,VX p])]
theorem qeV (l:List Pl) (p:Pl) (k:Int) (post:PX×S->Prop):(bif Yc k l then bif E7 k l then bif qe l k then bif D.ah (D.ao (nO l k) 3)==Q6 p&&(D.ah (D.ao (nO l k) 4)==Q5 p&&true)&&(D.ah (D.ao (nO l k) 5)==Q0 p&&true) then bif E7 k l then bif qe l k then bif D.eT (D.ao (nO l k) 6)==MP p then bif E7 k l then bif qe l k then∃(t:Int) (r:Int) (i:Int) (t':Int) (r':Int) (i':Int),HU l k::Z8S p=V0 t r i t' r' i'/\Zw/\bif decide (qB t r i t' r' i'<(0:Int)) then∃(s:List UInt8) (t:Int) (r:Int) (i:Int),P.d (D.str (MP p))::Z8S p=P.d (D.str s)::G6 t r i/\Zw/\post (PX.ret,S.mk 54 [dG,(4,P.d (D.str (Prod.fst (kB s t r i))))] (Q7 p)) else Z8V k post l p else False else False else Z8V k post l p else False else False else Z8V k post l p else False else False else post (PX.exit 0,S.mk 54 [dG] (Q7 p)))=(aF [(88,kC),(152,Ha)] [] 120 2 (naH l p k)) post:=by kernel_rfl
theorem qeW (l:List Pl) (p:Pl) (post:P×List (Nat×En)->Prop):(∃(ar:List Pl) (sF:Pl),S.mk 54 (sP l::dG::ZL) (Q7 p)=S.mk 54 (sP ar::dG::ZL) (Q7 sF)/\nA ar/\(List.any ar (MO sF)=true->post (P.d (D.str (Prod.fst (kB (MP sF) (Prod.fst (Prod.fst sF)) (Prod.fst (Prod.snd (Prod.fst sF))) (Prod.snd (Prod.snd (Prod.fst sF)))))),[]))/\(List.any ar (MO sF)=false->post (P.d (D.str (MP sF)),[])))=(aH [] [(2,ae (aK 120 2) gNa)] 120 [ey l,.d (bI p)] []) post:=by kernel_rfl
def hNa:bm:=fun ps R post=> ∃l p,ps=[ey l,.d (bI p)]/\R=[]/\l.length<=1000000/\ ∀s,s=LP l p->post (sD s,[])
abbrev paH (l:List Pl) (p:Pl) (s:List UInt8):S:=⟨28,[(0,ey l),(3,.ref 0 0 0),(5,sD s)],bxP 0 p⟩
inductive Q8 (T:List Pl) (V:List aC) (x:aC) (p:Pl):Prop
 |mk (h1:marked T V x=true) (h2:dT T x=some p)
def gPa:S->K (PX×S):=fun s post=> ∃T V x p w,s=paH (a8 T V) p ([47]++LP (a8 T V) p)/\(T.length<=1000/\Rt T/\Q8 T V x p/\Up T x w)/\post (.exit 0,⟨28,[(5,sD (oV (w.reverse.map (JB T V))))],[]⟩)
def Z8X (hZ:List UInt8):List UInt8:=[(47:UInt8)]++hZ
def Z8W (p:Pl):List P:=[P.d (D.agg [VZ p,VY p,VX p,D.int IntKind.i64 (Q6 p),D.int IntKind.i64 (Q5 p),D.int IntKind.i64 (Q0 p),D.str (MP p),D.bool (Prod.snd (Prod.snd (Prod.snd p)))])]
theorem qgR (l:List Pl) (p:Pl) (s:List UInt8) (post:PX×S->Prop):(bif !(Q6 p==(0:Int)&&(Q5 p==(0:Int)&&true)&&(Q0 p==(0:Int)&&true)) then∃(ar:List Pl) (x:aC),[kS l,P.d (D.agg [D.int IntKind.i64 (Q6 p),D.int IntKind.i64 (Q5 p),D.int IntKind.i64 (Q0 p)])]=kS ar::kW x/\Zw/\nA ar/\bif Z8m ar x l then bif cX PR (104:TypeId) (yB l ar x) then∃(gq:List Pl) (p:Pl),[kS l,P.d (D.agg [D.int IntKind.i64 (D.ah (D.ao (yB l ar x) 0)),D.int IntKind.i64 (D.ah (D.ao (yB l ar x) 1)),D.int IntKind.i64 (D.ah (D.ao (yB l ar x) 2)),Z8o l ar x,Z8p l ar x,Z8q l ar x,D.str (D.eT (D.ao (yB l ar x) 6)),D.bool (D.fI (D.ao (yB l ar x) 7))])]=kS gq::Z8W p/\Zw/\nA gq/\ ∀(hZ:List UInt8),hZ=LP gq p->bif decide (1+sr hZ<=Zx) then bif decide (List.length (Z8X hZ)+sr s<=Zx) then post (PX.normal,S.mk 28 [sP l,dG,(5,P.d (D.str (Z8X hZ++s)))] [(0,En.mk 0 none (Obj.box (104:TypeId) [P.d (D.int IntKind.i64 (D.ah (D.ao (yB l ar x) 0))),P.d (D.int IntKind.i64 (D.ah (D.ao (yB l ar x) 1))),P.d (D.int IntKind.i64 (D.ah (D.ao (yB l ar x) 2))),P.d (Z8o l ar x),P.d (Z8p l ar x),P.d (Z8q l ar x),P.d (D.str (D.eT (D.ao (yB l ar x) 6))),P.d (D.bool (D.fI (D.ao (yB l ar x) 7)))]))]) else False else False else False else False else post (PX.exit 0,S.mk 28 [(5,P.d (D.str s))] []))=(aF [(120,hNa),(87,QT)] [] 90 2 (paH l p s)) post:=by kernel_rfl
theorem qeX (l:List Pl) (p:Pl) (post:P×List (Nat×En)->Prop):(∃(ar:List Pl) (sF:Pl),kS l::Z8W p=kS ar::Z8W sF/\Zw/\nA ar/\ ∀(s:List UInt8),s=LP ar sF->bif decide (1+sr s<=Zx) then∃(T:List Pl) (V:List aC) (x:aC) (p_2:Pl) (w:List aC),S.mk 28 [sP l,dG,(5,P.d (D.str (Z8X s)))] (Q7 p)=S.mk 28 [(0,P.d (D.sl 8 (List.map bI (a8 T V)))),dG,(5,P.d (D.str ([(47:UInt8)]++LP (a8 T V) p_2)))] (Q7 p_2)/\(js T<=1000/\Rt T/\Q8 T V x p_2/\Up T x w)/\post (P.d (D.str (oV (List.map (JB T V) (List.reverse w)))),[]) else False)=(aH [(120,hNa)] [(2,ae (aK 90 2) gPa)] 90 [ey l,.d (bI p)] []) post:=by kernel_rfl
def hPa:bm:=fun ps R post=> ∃T V p,ps=[ey (a8 T V),.d (bI p)]/\R=[]/\(T.length<=1000/\Rt T/\p∈a8 T V)/\post (sD (JC T V p.1),[])
end Pi
namespace Pi
open Go Go.Proofs
set_option maxRecDepth 100000
theorem pT {l:List Pl} {x:aC} (h:dT l x=none):eC l x= -1:=by
 refine JD fun p hp=> ?_
 unfold dT at h
 simpa using List.find?_eq_none.1 h p hp
theorem mj {l:List Pl} {x:aC} {p:Pl} (h:dT l x=some p): ∃i:Nat,eC l x=(i:Int)/\i<l.length/\l.getD i su=p:=by
 unfold dT at h
 obtain⟨h1,i,hi,h2,h3⟩:=List.find?_eq_some_iff_getElem.1 h
 refine⟨i,E9 (x:=p) (by rw[List.getElem?_eq_getElem hi,h2]) h1 fun y hy=> ?_,hi,?_⟩
 ·obtain⟨j,hj,rfl⟩:=List.getElem_of_mem hy
  rw[List.getElem_take]
  rw[List.length_take] at hj
  simpa using h3 j (by omega)
 ·rw[List.getD_eq_getElem?_getD,List.getElem?_eq_getElem hi]
  exact h2
section
variable {X:XF}
theorem qca {x y:aC} (h:(x.1==y.1&&(x.2.1==y.2.1&&true)&&(x.2.2==y.2.2&&true))=true):x=y:=by
 rw[CR] at h
 simpa using h
theorem qcb {x y:aC} (h:(x.1==y.1&&(x.2.1==y.2.1&&true)&&(x.2.2==y.2.2&&true))=false):x≠y:=by
 rw[CR] at h
 simpa using h
theorem V1:LD X 86 2 (ae (aK 86 2) qb5):=LD.par (H:=[(87,QW)]) (hk:=[]) (by kernel_rfl) (by kernel_rfl) (.cons QZ .nil) .nil
 (A:=List Pl×aC×aC×Bool) (B:=aC×Int) (fun a b=>wiL a.2.2.2 a.1 a.1.length b.1 a.2.2.1 b.2)
 (fun a b=>a.1.length<=1000000/\0<=b.2/\b.2<=a.1.length+1/\lb a.1 (a.1.length+1-b.2.toNat) b.1 a.2.2.1=within a.1 a.2.1 a.2.2.1)
 (fun a b=>a.1.length+1-b.2.toNat)
 (fun a r=>(r=(.ret,⟨28,[(0,.sl 0 0 a.1.length),(6,.d (.bool (within a.1 a.2.1 a.2.2.1)))],AP a.2.2.2 a.1⟩))\/(within a.1 a.2.1 a.2.2.1=true/\r=(.exit 0,⟨28,[(0,.sl 0 0 a.1.length)],AP a.2.2.2 a.1⟩)))
 (by
  rintro⟨l,x0,y,z⟩ ⟨x,k⟩ ⟨hm,h0,hk,hw⟩
  dsimp only at*
  (rw[<-qeR];delta lD lE yA gW LR Zm ZJ iM HJ Za Z9 Zj Da rO Z8t Z3 Z47 Z8l js nA sE uZ kW Zz C9 ZM qJ Z8k)
  refine bb (fun h=> ?_) fun h=> ?_
  ·obtain⟨n,hn⟩: ∃n,l.length+1-k.toNat=n+1:=⟨l.length-k.toNat,by omega⟩
   rw[hn] at hw
   simp only[lb] at hw
   refine aw (fun he=> ?_) fun he=>⟨z,l,x,rfl,rfl,hm,?_⟩
   ·rw[if_pos (qca he)] at hw
    left
    rw[<-hw]
   ·rw[if_neg (qcb he)] at hw
    cases hp:dT l x with
    |none=>
     rw[hp] at hw
     rw[pT hp]
     refine fw (kx (by decide)) (.inl ?_)
     simp only at hw
     rw[<-hw]
    |some p=>
     rw[hp] at hw
     obtain⟨i,hi,bS,hip⟩:=mj hp
     rw[hi]
     simp only[Int.toNat_natCast]
     rw[iy bS,hip]
     refine kq (ky (by omega)) (bp ⟨by omega,by omega⟩ (aq (kx (by rw[List.length_map];exact bS)) (aq (gL p) (aq (pZ (by omega) (by omega)) ⟨l.length+1-(k+1).toNat,by omega,(p.2.1,k+1),rfl,⟨hm,by simp only;omega,by simp only;omega,?_⟩,rfl⟩))))
     simp only
     rw[show l.length+1-(k+1).toNat=n by omega]
     exact hw
  ·have:l.length+1-k.toNat=0:=by omega
   rw[this] at hw
   exact .inr ⟨hw.symm,rfl⟩)
 (by
  rintro s post ⟨z,l,x,y,rfl,hm,h1,h2⟩
  refine⟨(l,x,y,z),(x,0),rfl,⟨hm,by simp,by simp only;omega,rfl⟩,?_⟩
  rintro r (rfl | ⟨h3,rfl⟩)
  ·exact h1 _ rfl
  ·exact h2 h3)
theorem Yh:FD X 86 qb7:=FD.mk (H:=[]) (hk:=[(2,ae (aK 86 2) qb5)]) (by kernel_rfl) .nil (.cons V1 .nil) (by
 intro ps R post hh
 obtain⟨z,l,x,y,rfl,rfl,hm,hp⟩:=hh
 (rw[<-qb6];delta ZM gW LR C9 iz js nA sE lD lE yA Z7 ZZ iM HJ Z8v Zz qJ)
 exact⟨z,l,x,y,rfl,hm,fun b hb=>hp b hb,fun h=>hp true h.symm⟩)
theorem qcc:LD X 119 2 (ae (aK 119 2) gRo):=LD.par (H:=[(87,QT)]) (hk:=[]) (by kernel_rfl) (by kernel_rfl) (.cons Yf .nil) .nil
 (A:=List Pl×aC) (B:=aC×Int) (fun a b=>qb8 a.1 b.1 b.2)
 (fun a b=>a.1.length<=1000000/\0<=b.2/\b.2<=a.1.length+1/\sv a.1 (a.1.length+1-b.2.toNat) b.1=kD a.1 a.2)
 (fun a b=>a.1.length+1-b.2.toNat)
 (fun a r=>(r=(.ret,⟨39,[(4,.d (.bool (kD a.1 a.2)))],[]⟩))\/(kD a.1 a.2=false/\r=(.exit 0,⟨39,[],[]⟩)))
 (by
  rintro⟨l,x0⟩ ⟨x,k⟩ ⟨hm,h0,hk,hw⟩
  dsimp only at*
  (rw[<-qeS];delta gW yB Z8q Z8p Z8o Z8r Zm Zn bQ dG kS sP Za Z9 Zj ZM E8 rO Z8m Z3 Zi Z8w Z8l js nA Zw lD lE uZ kW)
  simp only[List.length_map]
  refine bb (fun h=> ?_) fun h=> ?_
  ·obtain⟨n,hn⟩: ∃n,l.length+1-k.toNat=n+1:=⟨l.length-k.toNat,by omega⟩
   rw[hn] at hw
   simp only[sv] at hw
   refine⟨l,x,rfl,rfl,hm,?_⟩
   cases hp:dT l x with
   |none=>
    rw[hp] at hw
    rw[pT hp]
    refine fw (kx (by decide)) (.inl ?_)
    simp only at hw
    rw[<-hw]
   |some p=>
    rw[hp] at hw
    simp only at hw
    obtain⟨i,hi,bS,hip⟩:=mj hp
    rw[hi]
    simp only[Int.toNat_natCast]
    rw[iy bS,hip]
    refine kq (ky (by omega)) (bp ⟨by omega,by omega⟩ (aq (gL p) (aw (fun he=> ?_) fun he=>⟨l,p.2.1,rfl,rfl,hm,?_⟩)))
    ·rw[if_pos (qca (y:=aS) he)] at hw
     left
     rw[<-hw]
    ·rw[if_neg (qcb (y:=aS) he)] at hw
     cases hq:dT l p.2.1 with
     |none=>
      rw[hq] at hw
      rw[pT hq]
      refine fw (kx (by decide)) (.inl ?_)
      simp only at hw
      rw[<-hw]
     |some q=>
      rw[hq] at hw
      simp only at hw
      obtain⟨j,hj,Fv,hjq⟩:=mj hq
      rw[hj]
      simp only[Int.toNat_natCast]
      rw[iy Fv,hjq]
      refine kq (ky (by omega)) (bp ⟨by omega,by omega⟩ (aq (gL q) (aw (fun hd=> ?_) fun hd=>aq (pZ (by omega) (by omega)) ⟨l.length+1-(k+1).toNat,by omega,(p.2.1,k+1),rfl,⟨hm,by simp only;omega,by simp only;omega,?_⟩,rfl⟩)))
      ·have KD:(!q.2.2.2)=true:=hd
       rw[if_pos (by simpa using KD)] at hw
       left
       rw[<-hw]
      ·have KD:(!q.2.2.2)=false:=hd
       rw[if_neg (by simpa using KD)] at hw
       simp only
       rw[show l.length+1-(k+1).toNat=n by omega]
       exact hw
  ·have:l.length+1-k.toNat=0:=by omega
   rw[this] at hw
   exact .inr ⟨hw.symm,rfl⟩)
 (by
  rintro s post ⟨l,x,rfl,hm,h1,h2⟩
  refine⟨(l,x),(x,0),rfl,⟨hm,by simp,by simp only;omega,rfl⟩,?_⟩
  rintro r (rfl | ⟨h3,rfl⟩)
  ·exact h1 _ rfl
  ·exact h2 h3)
theorem qeY:FD X 119 qb9:=FD.mk (H:=[]) (hk:=[(2,ae (aK 119 2) gRo)]) (by kernel_rfl) .nil (.cons qcc .nil) (by
 intro ps R post hh
 obtain⟨l,x,rfl,rfl,hm,hp⟩:=hh
 (rw[<-qeT];delta Z3 Z4 iz js nA lD lE yA HT Z7 ZL bQ dG gW kS sP)
 exact⟨l,x,rfl,hm,fun b hb=>hp b hb,fun h=>hp false h.symm⟩)
theorem Q9:FD X 87 Fa:=QZ.weaken fun ps R post h=>by
 obtain⟨l,x,h1,h2,h3,h4⟩:=h
 exact⟨false,l,x,h1,h2,h3,h4⟩
theorem Fb {l:List Pl} {x:aC}:eC l x<0↔(dT l x).isSome=false:=by
 cases h:dT l x with
 |none=>rw[pT h];simp
 |some p=>
  obtain⟨i,hi,_⟩:=mj h
  rw[hi]
  simp
theorem vP (l:List Pl):(l.map bI).take l.length=l.map bI:=List.take_of_length_le (by simp)
theorem qcd:LD X 118 3 (ae (aK 118 3) gRi):=LD.par (H:=[(151,l0),(138,An),(87,Fa)]) (hk:=[]) (by kernel_rfl) (by kernel_rfl) (.cons ri (.cons B5 (.cons Q9 .nil))) .nil
 (A:=List Pl) (B:=Int) (fun a k=>riH a (oa (a.take k.toNat)) (oa (a.take k.toNat)).length k)
 (fun a k=>a.length<=1000000/\0<=k/\k.toNat<=a.length)
 (fun a k=>(a.length-k).toNat)
 (fun a x=>x=(.exit 0,⟨43,[(3,.sl 0 0 (oa a).length)],[(0,⟨0,none,.arr 104 false ((oa a).map bI)⟩)]⟩))
 (by
  rintro l k ⟨hm,h0,h1⟩
  (rw[<-qgQ];delta gW MN FL Zm AF Zz kS sP Za Z9 Zj Z8H Zg nO LU LV LW VU Z8E Z8D rO Z8l js nA VW lD lE uZ kW sE xw Zw Zs ZC G6 HU qe E7 Yc)
  simp only[List.length_map]
  refine bb (fun h=> ?_) fun h=> ?_
  ·have hk:k.toNat<l.length:=by omega
   rw[iy hk]
   have e:oa (l.take (k+1).toNat)=Hh (oa (l.take k.toNat)) (l.getD k.toNat su):=by
    rw[show(k+1).toNat=k.toNat+1 by omega]
    exact Hi Hh [] l _ k.toNat hk
   have htl:=CP (l.take k.toNat)
   rw[List.length_take] at htl
   generalize l.getD k.toNat su=p at e
   generalize oa (l.take k.toNat)=T at e htl
   have go: ∀T',Hh T p=T'-> ∃m,m<((l.length:Int)-k).toNat/\ ∃b,(riH l T' T'.length (k+1):S)=riH l (oa (l.take b.toNat)) (oa (l.take b.toNat)).length b/\(l.length<=1000000/\0<=b/\b.toNat<=l.length)/\m=((l.length:Int)-b).toNat:=fun T' hT=>⟨((l.length:Int)-(k+1)).toNat,by omega,k+1,by rw[e,hT],⟨hm,by omega,by omega⟩,rfl⟩
   have fit:decide ((-9223372036854775808:Int)<=k+(1:Int)/\k+(1:Int)<=(9223372036854775807:Int))=true:=pZ (by omega) (by omega)
   refine bp ⟨h0,by omega⟩ (aq (gL _) ⟨p.1.1,p.1.2.1,p.1.2.2,rfl,rfl,aw (fun h3=>bp ⟨h0,by omega⟩ (aq (gL _) ⟨p.2.2.1,rfl,rfl,aw (fun h4=>bp ⟨h0,by omega⟩ (aq (gL _) ⟨T,p.1,rfl,rfl,by omega,aw (fun h5=>bp ⟨h0,by omega⟩ (aq (gL _) (aq ?_ (aq fit ?_)))) fun h5=>aq fit ?_⟩)) fun h4=>aq fit ?_⟩)) fun h3=>aq fit ?_⟩)
   ·simp[aT]
    omega
   ·have hs:(dT T p.1).isSome=false:=Fb.1 (of_decide_eq_true h5)
    have:=go (T++[p]) (by unfold Hh;simp[hs,xC,h3,h4])
    rw[vP]
    have e1:(T++[p]).length=T.length+1:=by simp
    have e2:(T++[p]).map bI=T.map bI++[bI p]:=by simp
    simp only[riH,e1,e2] at this
    exact this
   ·have hs:(dT T p.1).isSome=true:=by
     cases hs:(dT T p.1).isSome with
     |true=>rfl
     |false=>exact absurd (Fb.2 hs) (of_decide_eq_false h5)
    exact go T (by unfold Hh;simp[hs])
   ·refine go T ?_
    unfold Hh
    split
    ·rfl
    ·rw[if_neg (by simp[xC,h4])]
   ·refine go T ?_
    unfold Hh
    split
    ·rfl
    ·rw[if_neg (by simp[xC,h3])]
  ·rw[List.take_of_length_le (by omega)];rfl)
 (by
  rintro s post ⟨l,rfl,hm,hp⟩
  refine⟨l,0,rfl,⟨hm,by decide,by simp⟩,?_⟩
  rintro x rfl
  exact hp)
theorem qgS:FD X 118 hRi:=FD.mk (H:=[]) (hk:=[(3,ae (aK 118 3) gRi)]) (by kernel_rfl) .nil (.cons qcd .nil) (by
 intro ps R post hh
 obtain⟨l,rfl,rfl,hm,hp⟩:=hh
 (rw[<-qeU];delta Z8K js nA yC Z7 UR ZO XJ gW kS sP Z8J)
 exact⟨l,rfl,hm,hp⟩)
theorem qce:LD X 120 2 (ae (aK 120 2) gNa):=
 LD.scan (H:=[(88,kC),(152,Ha)]) (hk:=[]) (by kernel_rfl) (by kernel_rfl) (.cons oY (.cons OO .nil)) .nil
  (A:=List Pl×Pl) (fun a k=>naH a.1 a.2 k) (·.1) su (fun a q=>MO a.2 q) (fun _=>True)
  (fun a _=>⟨54,[(3,.ref 0 0 0),(4,sD (kB a.2.2.2.1 a.2.1.1 a.2.1.2.1 a.2.1.2.2).1)],bxP 0 a.2⟩) (fun a=>⟨54,[(3,.ref 0 0 0)],bxP 0 a.2⟩)
  (by
   rintro⟨l,p⟩ k post _ hm h0 hk eb ht hf
   dsimp only at*
   (rw[<-qeV];delta MP Q0 Q5 Q6 VX VY VZ Q7 Zm Zn bQ dG gW kS sP Za Z9 Zj Z8V Zs ZC G6 Zw V0 Z8S Zg nO LU LV LW HU qe rO E7 Yc)
   simp only[List.length_map]
   rw[iy eb]
   generalize l.getD k.toNat su=q at ht hf
   have fit:decide ((-9223372036854775808:Int)<=k+(1:Int)/\k+(1:Int)<=(9223372036854775807:Int))=true:=pZ (by omega) (by omega)
   refine fw (kx hk) (bp ⟨h0,hk⟩ (aq (gL _) (aw (fun h1=>bp ⟨h0,hk⟩ (aq (gL _) (aw (fun h2=>bp ⟨h0,hk⟩ (aq (gL _) ⟨_,_,_,_,_,_,rfl,rfl,aw (fun h3=>⟨_,_,_,_,rfl,rfl,ht ?_⟩) fun h3=>aq fit (hf ?_)⟩)) fun h2=>aq fit (hf ?_)))) fun h1=>aq fit (hf ?_))))
   ·have Mp:q.2.1=p.2.1:=qca h1
    have h3':=(jJ q.1 p.1).1 (of_decide_eq_true h3)
    have YU:(q.2.2.1==p.2.2.1)=true:=h2
    simp[MO,Mp,YU,h3']
   ·have h3': ¬Aq q.1 p.1=true:=fun h=>of_decide_eq_false h3 ((jJ q.1 p.1).2 h)
    simp[MO,h3']
   ·have YU:(q.2.2.1==p.2.2.1)=false:=h2
    simp[MO,YU]
   ·have Mp:q.2.1≠p.2.1:=qcb h1
    simp[MO,Mp])
  (by
   rintro⟨l,p⟩ k post _ hk hp
   dsimp only at*
   (rw[<-qeV];delta MP Q0 Q5 Q6 VX VY VZ Q7 Zm Zn bQ dG gW kS sP Za Z9 Zj Z8V Zs ZC G6 Zw V0 Z8S Zg nO LU LV LW HU qe rO E7 Yc)
   simp only[List.length_map]
   exact kq (ky hk) hp)
  (by
   rintro s post ⟨l,p,rfl,hm,h1,h2⟩
   refine⟨(l,p),rfl,trivial,hm,fun i hi h0=>h1 ?_,fun h=>h2 ?_⟩
   ·rw[<-JE (MO p) l,<-hi]
    exact kx h0
   ·rw[<-JE (MO p) l]
    dsimp only at h
    rw[h]
    rfl)
theorem qeZ:FD X 120 hNa:=FD.mk (H:=[]) (hk:=[(2,ae (aK 120 2) gNa)]) (by kernel_rfl) .nil (.cons qce .nil) (by
 intro ps R post hh
 obtain⟨l,p,rfl,rfl,hm,hp⟩:=hh
 (rw[<-qeW];delta MP js nA Q0 Q5 Q6 VX VY VZ Q7 Z7 ZL bQ dG gW kS sP)
 have e:LP l p=if l.any (MO p)=true then(kB p.2.2.1 p.1.1 p.1.2.1 p.1.2.2).1 else p.2.2.1:=rfl
 exact⟨l,p,rfl,hm,fun h=>hp _ (by rw[e,if_pos h]),fun h=>hp _ (by rw[e,h];rfl)⟩)
theorem Ra {T:List Pl} {V:List aC} (hu:Uq T):Uq (a8 T V):=by
 unfold Uq
 exact Ez hu V
theorem LX {T:List Pl} {V:List aC} (hu:Uq T) {x:aC} {p:Pl} (h:marked T V x=true) (hp:dT T x=some p):dT (a8 T V) x=some p:=by
 have:=I2 (Ra (V:=V) hu) (QQ h hp)
 rwa [(iZ hp).2] at this
theorem qcf:LD X 90 2 (ae (aK 90 2) gPa):=LD.par (H:=[(120,hNa),(87,QT)]) (hk:=[]) (by kernel_rfl) (by kernel_rfl) (.cons qeZ (.cons Yf .nil)) .nil
 (A:=List Pl×List aC×List aC) (B:=Pl×List UInt8×aC×List aC×List aC) (fun a b=>paH (a8 a.1 a.2.1) b.1 b.2.1)
 (fun⟨T,V,w0⟩ ⟨p,s,x,v,w⟩=>T.length<=1000/\Rt T/\w0.length<=T.length/\marked T V x=true/\dT T x=some p/\Up T x w/\w0=v++w/\s=oV ((v++[x]).reverse.map (JB T V))/\(∀u∈w,marked T V u=true)/\(oV (w0.reverse.map (JB T V))).length<=201*T.length/\s.length<=201*(v.length+1))
 (fun _ b=>b.2.2.2.2.length)
 (fun⟨T,V,w0⟩ r=>r=(.exit 0,⟨28,[(5,sD (oV (w0.reverse.map (JB T V))))],[]⟩))
 (by
  rintro⟨T,V,w0⟩ ⟨p,s,x,v,w⟩ ⟨hm,hT,hw0,hmx,WV,hw,Bg,hs,hmw,hlen,Gp⟩
  dsimp only at*
  have hsL:(a8 T V).length<=T.length:=List.length_filter_le _ _
  (rw[<-qgR];delta bQ dG gW kS sP Z8X Zx sr MP Q0 Q5 Q6 VX VY VZ Z8W yB Z8q Z8p Z8o rO Z8m js nA Zw lD lE uZ kW)
  simp only[List.length_map]
  cases hw with
  |top h h0=>
   rw[WV] at h
   cases h
   refine kq ?_ ?_
   ·rw[h0];rfl
   ·show _=_
    rw[Bg,hs]
  | @step _ p' q w' h h0 hq hd Ec=>
   rw[WV] at h
   cases h
   obtain⟨r,hr⟩:=Ec.hd
   have hmq:marked T V p.2.1=true:=hmw _ (by rw[hr];simp)
   have hqs:=LX hT.1 hmq hq
   obtain⟨i,hi,bS,uL⟩:=mj hqs
   have oD:=vO (a8 T V) (hT.2 q (iZ hq).1)
   have TU:JB T V p.2.1=LP (a8 T V) q:=by unfold JB;rw[hq]
   have Sf:v.length+1<=T.length:=by
    have:=congrArg List.length Bg
    simp at this
    omega
   refine fw ?_ ⟨a8 T V,p.2.1,rfl,rfl,by omega,?_⟩
   ·have:=CR p.2.1 (0,0,0)
    rw[show(p.2.1==(0,0,0))=false by simpa using h0] at this
    simp only at this
    show(!_)=true
    rw[this]
    rfl
   rw[hi]
   simp only[Int.toNat_natCast]
   rw[iy bS,uL]
   refine bp ⟨by omega,by omega⟩ (aq (gL q) ⟨a8 T V,q,rfl,rfl,by omega,fun s1 pX=> ?_⟩)
   subst pX
   refine bp (by omega) (bp (by simp;omega) ⟨w'.length,by simp,(q,[47]++LP (a8 T V) q++s,p.2.1,v++[x],w'),rfl,⟨hm,hT,hw0,hmq,hq,Ec,by rw[Bg];simp,?_,fun u hu=>hmw u (by simp[hu]),hlen,?_⟩,rfl⟩)
   ·simp only
    rw[hs,<-TU]
    simp[oV]
   ·simp only
    simp
    omega)
 (by
  rintro s post ⟨T,V,x,p,w,rfl,⟨hm,hT,⟨hmx,WV⟩,hw⟩,hp⟩
  obtain⟨w2,hw2,mw⟩:=As hmx
  have:=hw.one hw2
  subst this
  have TU:JB T V x=LP (a8 T V) p:=by unfold JB;rw[WV]
  have oD:=vO (a8 T V) (hT.2 p (iZ WV).1)
  refine⟨(T,V,w),(p,[47]++LP (a8 T V) p,x,[],w),rfl,⟨hm,hT,hw.len,hmx,WV,hw,rfl,by rw[<-TU];simp[oV],mw,LQ hT hw,by simp;omega⟩,?_⟩
  rintro r rfl
  exact hp)
theorem qgT:FD X 90 hPa:=FD.mk (H:=[(120,hNa)]) (hk:=[(2,ae (aK 90 2) gPa)]) (by kernel_rfl) (.cons qeZ .nil) (.cons qcf .nil) (by
 intro ps R post hh
 obtain⟨T,V,p,rfl,rfl,⟨hm,hT,hp0⟩,hp⟩:=hh
 obtain⟨hpT,EU⟩:=VQ hp0
 have DA:=I2 hT.1 hpT
 obtain⟨w,hw,_⟩:=As EU
 have hsL:(a8 T V).length<=T.length:=List.length_filter_le _ _
 have oD:=vO (a8 T V) (hT.2 p hpT)
 (rw[<-qeX];delta js MP Q0 Q5 Q6 VX VY VZ Q7 Z8X bQ dG gW kS sP Zx sr nA Zw Z8W)
 refine⟨a8 T V,p,rfl,rfl,by omega,fun s hs=> ?_⟩
 subst hs
 refine bp (by omega) ⟨T,V,p.1,p,w,rfl,⟨hm,hT,⟨EU,DA⟩,hw⟩,?_⟩
 unfold JC at hp
 rw[QR hw] at hp
 exact hp)
end
end Pi
namespace Pi
open Go Go.Proofs
set_option maxRecDepth 100000
set_option maxHeartbeats 0
abbrev JG (n:Nat) (z:Bool) (l:List Pl):List (Nat×En):=[(n,⟨0,none,.arr 104 z (l.map bI)⟩)]
abbrev LZ (n:Nat) (l:List It):List (Nat×En):=[(n,⟨0,none,.arr 72 false (l.map fg)⟩)]
abbrev skH (z:Bool) (l:List Pl) (n:Nat) (v:List aC) (o:List Pl) (m:Nat) (i:Int):S:=⟨62,[(0,.sl 0 0 n),(1,dx v),(5,.sl 1 0 m),(6,iD i)],JG 0 z l++JG 1 false o⟩
abbrev skI (z:Bool) (l:List Pl) (n:Nat) (v:List aC) (o:List Pl) (m:Nat) (i:Int) (b:Bool) (k:Int):S:=⟨62,[(0,.sl 0 0 n),(1,dx v),(5,.sl 1 0 m),(6,iD i),(7,.d (.bool b)),(8,iD k)],JG 0 z l++JG 1 false o⟩
def JH (l:List Pl) (v:List aC) (p q:Pl):Bool:=decide (q.1∈v)&&kD l q.1&&within l q.1 p.1
def qcg:S->K (PX×S):=fun s post=> ∃z l v o m i b,s=skI z l l.length v o m i b 0/\(l.length<=1000000/\v.length<=1000000/\0<=i/\i<l.length)/\
 ∀z' b',b'=(b ||l.any (JH l v (l.getD i.toNat su)))->post (.exit 2,⟨62,[(0,.sl 0 0 l.length),(1,dx v),(5,.sl 1 0 m),(6,iD i),(7,.d (.bool b'))],JG 0 z' l++JG 1 false o⟩)
def Z90 (l:List Pl):Nat×En:=(0,En.mk 0 none (Obj.arr (104:TypeId) true (gW l)))
def Fc (o:List Pl):List (Nat×En):=[(1,MN o)]
def FM (z:Bool) (vf:List Pl):Nat×En:=(0,En.mk 0 none (Obj.arr (104:TypeId) z (gW vf)))
theorem qe0 (z:Bool) (l:List Pl) (n:Nat) (v:List aC) (o:List Pl) (m:Nat) (i:Int) (b:Bool) (k:Int) (post:PX×S->Prop):(bif QA k n then bif nN k n then bif FK k l then bif qe l k then∃(ar:List aC) (x:aC),[nr v,HU l k]=nr ar::kW x/\Zw/\uK ar/\bif decide (x∈ar) then bif nN k n then bif FK k l then bif qe l k then∃(gq:List Pl) (x:aC),[P.d (D.sl 8 (List.take n (gW l))),HU l k]=kS gq::kW x/\Zw/\nA gq/\ ∀(b_1:Bool),b_1=kD gq x->bif b_1 then bif nN k n then bif FK k l then bif qe l k then bif nN i n then bif FK i l then bif qe l i then∃(z:Bool) (vf:List Pl) (x:aC) (y:aC),[Zz n,HU l k,HU l i]=sE vf::uZ x::kW y/\[(0,En.mk 0 (some 0) (Obj.arr (104:TypeId) true (gW l)))]=C9 z vf/\nA vf/\ ∀(b_2:Bool),b_2=within vf x y->bif b_2 then bif Zj k then post (PX.normal,S.mk 62 (qJ n::mx v::FH m::ZI i::(7,ZM)::rC k) (FM z vf::Fc o)) else False else bif Zj k then post (PX.normal,S.mk 62 (qJ n::mx v::FH m::ZI i::pQ b::rC k) (FM z vf::Fc o)) else False else False else False else False else False else False else False else bif Zj k then post (PX.normal,S.mk 62 (qJ n::mx v::FH m::ZI i::pQ b::rC k) (Z90 l::Fc o)) else False else False else False else False else bif Zj k then post (PX.normal,S.mk 62 (qJ n::mx v::FH m::ZI i::pQ b::rC k) (FM z l::Fc o)) else False else False else False else False else post (PX.exit 2,S.mk 62 [qJ n,mx v,FH m,ZI i,pQ b] (FM z l::Fc o)))=(aF [(91,QX),(119,qb9),(86,qb7)] [] 89 8 (skI z l n v o m i b k)) post:=by kernel_rfl
theorem qe1 (z:Bool) (l:List Pl) (n:Nat) (v:List aC) (o:List Pl) (m:Nat) (i:Int) (post:PX×S->Prop):(bif QA i n then∃(LS:Bool) (ar:List Pl) (cV:List aC) (aQ:List Pl) (bL:Nat) (aJ:Int) (b:Bool),S.mk 62 (qJ n::mx v::FH m::ZI i::(7,P.d Z3)::MI) (FM z l::Fc o)=S.mk 62 ((0,sE ar)::mx cV::FH bL::ZI aJ::pQ b::MI) (FM LS ar::Fc aQ)/\(nA ar/\uK cV/\(0:Int)<=aJ/\aJ<(↑(js ar):Int))/\ ∀(z' b':Bool),b'=(b ||List.any ar (JH ar cV (List.getD ar (Zg aJ) su)))->bif b' then bif decide ((0:Int)<=aJ/\aJ<(↑(js ar):Int)) then bif FK aJ ar then bif qe ar aJ then bif Nat.ble bL (rO aQ)&&aT (Z8D bL ar aJ) 72 then bif Zj aJ then post (PX.normal,S.mk 62 ((0,sE ar)::mx cV::(5,P.sl 1 0 (Z8D bL ar aJ))::Zy aJ) [FM z' ar,(1,Z8E bL aQ ar aJ)]) else False else False else False else False else False else bif Zj aJ then post (PX.normal,S.mk 62 ((0,sE ar)::mx cV::FH bL::Zy aJ) (FM z' ar::Fc aQ)) else False else post (PX.exit 0,S.mk 62 [ZA m] (FL o)))=(aF [] [(8,ae (aK 89 8) qcg)] 89 4 (skH z l n v o m i)) post:=by kernel_rfl
def qch:S->K (PX×S):=fun s post=> ∃l v,s=skH false (oa l) (oa l).length v [] 0 0/\(l.length<=1000000/\v.length<=1000000)/\post (.exit 0,⟨62,[(5,.sl 0 0 (a8 (oa l) v).length)],JG 0 false (a8 (oa l) v)⟩)
def Z92 (l:List Pl) (cV:List aC):Nat×En:=(0,En.mk 0 none (Obj.arr (104:TypeId) false (List.map bI (a8 (oa l) cV))))
def Z91 (ar:List Pl) (v:List aC):S:=S.mk 62 ((0,P.sl 0 0 (List.length (oa ar)))::mx v::(5,yy)::CD) [Z8K ar,(1,yC)]
theorem qgU (l:List Pl) (v:List aC) (post:P×List (Nat×En)->Prop):(∃(ar:List Pl),[kS l]=[kS ar]/\Zw/\nA ar/\ ∃(l:List Pl) (cV:List aC),Z91 ar v=Z91 l cV/\(nA l/\uK cV)/\post (P.sl 0 0 (List.length (a8 (oa l) cV)),[Z92 l cV]))=(aH [(118,hRi)] [(4,ae (aK 89 4) qch)] 89 [ey l,dx v] []) post:=by kernel_rfl
def HV:bm:=fun ps R post=> ∃l v,ps=[ey l,dx v]/\R=[]/\(l.length<=1000000/\v.length<=1000000)/\post (.sl 0 0 (a8 (oa l) v).length,JG 0 false (a8 (oa l) v))
abbrev imH (z:Bool) (l:List Pl) (n:Nat) (v:List aC) (o:List It) (m:Nat) (i:Int):S:=⟨77,[(1,dx v),(5,.sl 0 0 n),(6,.sl 1 0 m),(7,iD i)],JG 0 z l++LZ 1 o⟩
abbrev imI (z:Bool) (l:List Pl) (n:Nat) (v:List aC) (o:List It) (m:Nat) (i k:Int):S:=⟨77,[(1,dx v),(5,.sl 0 0 n),(6,.sl 1 0 m),(7,iD i),(9,iD k)],JG 0 z l++LZ 1 o⟩
def qci:S->K (PX×S):=fun s post=> ∃z l n v o a i k,s=imI z l n v (o++[a]) (o.length+1) i k/\(k=(o.length:Int)/\o.length<=1000000)/\post (.exit 2,imH z l n v (dy E6 o a) (o.length+1) i)
def Z9a (o:List It):En:=En.mk 0 none (Obj.arr (72:TypeId) false (List.map fg o))
def V2 (m:Nat):Nat×P:=(6,P.sl 1 0 m)
def Z9b (post:PX×S->Prop) (v:List aC) (n:Nat) (m:Nat) (i:Int) (z:Bool) (l:List Pl) (o:List It):Prop:=post (PX.exit 2,S.mk 77 [mx v,ZA n,V2 m,tI i] [FM z l,(1,Z9a o)])
def Rb (o:List It) (k:Int):D:=D.nth (List.map fg o) (Zg k)
def Z96 (o:List It) (k:Int):List D:=[D.int IntKind.i64 (D.ah (D.ao (Rb o k) 0)),D.int IntKind.i64 (D.ah (D.ao (Rb o k) 1)),D.int IntKind.i64 (D.ah (D.ao (Rb o k) 2)),D.str (D.eT (D.ao (Rb o k) 3)),D.bool (D.fI (D.ao (Rb o k) 4)),D.bool (D.fI (D.ao (Rb o k) 5))]
def SI (o:List It) (k:Int):D:=D.nth (List.map fg o) (Zc k)
def Z97 (o:List It) (k:Int):List D:=List.set (List.map fg o) (Zg k) (D.aY (D.agg (Z96 o k)) [D.int IntKind.i64 (D.ah (D.ao (SI o k) 0)),D.int IntKind.i64 (D.ah (D.ao (SI o k) 1)),D.int IntKind.i64 (D.ah (D.ao (SI o k) 2)),D.str (D.eT (D.ao (SI o k) 3)),D.bool (D.fI (D.ao (SI o k) 4)),D.bool (D.fI (D.ao (SI o k) 5))])
def Yi (o:List It) (k:Int):D:=D.nth (Z97 o k) (Zc k)
def Z93 (k:Int) (o:List It):Bool:=decide (Zg k<List.length (List.map fg o))
theorem qe2 (z:Bool) (l:List Pl) (n:Nat) (v:List aC) (o:List It) (m:Nat) (i k:Int) (post:PX×S->Prop):(bif Zq k then bif nN k m then bif Z93 k o then bif cX PR (72:TypeId) (Rb o k) then bif Zb k then bif AL k m then bif decide (Zc k<List.length (List.map fg o)) then bif cX PR (72:TypeId) (SI o k) then bif Op.bytesLess (D.eT (D.ao (Rb o k) 3)) (D.eT (D.ao (SI o k) 3)) then bif Zb k then bif Zb k then bif AL k m then bif decide (Zc k<List.length (List.map fg o)) then bif cX PR (72:TypeId) (SI o k) then bif nN k m then bif Z93 k o then bif cX PR (72:TypeId) (Rb o k) then bif nN k m then bif Z93 k o then bif cX PR (72:TypeId) (Rb o k) then bif AL k m then bif decide (Zc k<List.length (Z97 o k)) then bif cX PR (72:TypeId) (Yi o k) then bif Zb k then post (PX.normal,S.mk 77 (mx v::ZA n::V2 m::tI i::Vl k) [FM z l,(1,En.mk 0 none (Obj.arr (72:TypeId) false (List.set (Z97 o k) (Zc k) (D.aY (D.agg [D.int IntKind.i64 (D.ah (D.ao (Yi o k) 0)),D.int IntKind.i64 (D.ah (D.ao (Yi o k) 1)),D.int IntKind.i64 (D.ah (D.ao (Yi o k) 2)),D.str (D.eT (D.ao (Yi o k) 3)),D.bool (D.fI (D.ao (Yi o k) 4)),D.bool (D.fI (D.ao (Yi o k) 5))]) (Z96 o k)))))]) else False else False else False else False else False else False else False else False else False else False else False else False else False else False else False else Z9b post v n m i z l o else False else False else False else False else False else False else False else Z9b post v n m i z l o)=(aF [] [] 56 9 (imI z l n v o m i k)) post:=by kernel_rfl
def Z9c (l:List Pl) (i:Int) (T:List Pl) (V:List aC) (p:Pl) (ar:List aC) (x:aC):List D:=[D.agg [LW l i,LV l i,LU l i,D.str (JC T V (Prod.fst p)),D.bool (D.fI (D.ao (nO l i) 7)),D.bool !decide (x∈ar)]]
theorem qe3 (z:Bool) (l:List Pl) (n:Nat) (v:List aC) (o:List It) (m:Nat) (i:Int) (post:PX×S->Prop):(bif QA i n then bif nN i n then bif FK i l then bif qe l i then∃(T:List Pl) (V:List aC) (p:Pl),[P.d (D.sl 8 (List.take n (gW l))),P.d (D.agg (VU l i))]=P.d (D.sl 8 (List.map bI (a8 T V)))::Z8W p/\Zw/\(js T<=1000/\Rt T/\p∈a8 T V)/\ ∃(ar:List aC) (x:aC),[nr v,HU l i]=nr ar::kW x/\Zw/\uK ar/\bif Nat.ble m (List.length (List.map fg o))&&aT (m+List.length (Z9c l i T V p ar x)) 48 then bif decide (Z9<=(↑(m+List.length (Z9c l i T V p ar x)):Int)-(1:Int)/\(↑(m+List.length (Z9c l i T V p ar x)):Int)-(1:Int)<=Za) then∃(z:Bool) (gq:List Pl) (cj:Nat) (cV:List aC) (aQ:List It) (a:It) (aJ:Int) (k:Int),S.mk 77 [mx v,ZA n,(6,P.sl 1 0 (m+List.length (Z9c l i T V p ar x))),tI i,(9,P.d (D.int IntKind.i64 ((↑(m+List.length (Z9c l i T V p ar x)):Int)-(1:Int))))] [Z90 l,(1,En.mk 0 none (Obj.arr (72:TypeId) false (List.take m (List.map fg o)++Z9c l i T V p ar x)))]=S.mk 77 [mx cV,ZA cj,(6,P.sl 1 0 (List.length aQ+1)),tI aJ,Ly k] [FM z gq,(1,En.mk 0 none (Obj.arr (72:TypeId) false (List.map fg (aQ++[a]))))]/\(k=(↑(List.length aQ):Int)/\List.length aQ<=1000000)/\bif Zj aJ then post (PX.normal,S.mk 77 (mx cV::ZA cj::(6,P.sl 1 0 (List.length aQ+1))::ZJ aJ) [FM z gq,(1,En.mk 0 none (Obj.arr (72:TypeId) false (List.map fg (dy E6 aQ a))))]) else False else False else False else False else False else False else post (PX.exit 0,S.mk 77 [(6,Zz m)] [(0,Z9a o)]))=(aF [(90,hPa),(91,QX)] [(9,ae (aK 56 9) qci)] 56 4 (imH z l n v o m i)) post:=by kernel_rfl
def qcj:S->K (PX×S):=fun s post=> ∃T v,s=imH false (a8 T v) (a8 T v).length v [] 0 0/\(T.length<=1000/\Rt T/\v.length<=1000000)/\post (.exit 0,⟨77,[(6,.sl 0 0 (jr T v).length)],LZ 0 (jr T v)⟩)
def SJ:En:=En.mk 0 none (Obj.arr (72:TypeId) false [])
def Z9d:List (Nat×P):=(6,yy)::ZZ
theorem qgV (l:List Pl) (v:List aC) (post:P×List (Nat×En)->Prop):(∃(ar:List Pl) (cV:List aC),[kS l,nr v]=[kS ar,nr cV]/\Zw/\(nA ar/\uK cV)/\ ∃(T:List Pl) (B0:List aC),S.mk 77 (mx v::(5,P.sl 0 0 (List.length (a8 (oa ar) cV)))::Z9d) [Z92 ar cV,(1,SJ)]=S.mk 77 (mx B0::(5,P.sl 0 0 (List.length (a8 T B0)))::Z9d) [(0,En.mk 0 none (Obj.arr (104:TypeId) false (List.map bI (a8 T B0)))),(1,SJ)]/\(js T<=1000/\Rt T/\uK B0)/\post (P.sl 0 0 (List.length (jr T B0)),[(0,En.mk 0 none (Obj.arr (72:TypeId) false (List.map fg (jr T B0))))]))=(aH [(89,HV)] [(4,ae (aK 56 4) qcj)] 56 [ey l,dx v] []) post:=by kernel_rfl
def CS:bm:=fun ps R post=> ∃l v,ps=[ey l,dx v]/\R=[]/\(l.length<=1000/\v.length<=1000000)/\post (.sl 0 0 (jr (oa l) v).length,LZ 0 (jr (oa l) v))
end Pi
namespace Pi
open Go Go.Proofs
set_option maxRecDepth 100000
theorem V3 {T:List Pl} (hT:Rt T):dT T aS=none:=by
 cases h:dT T aS with
 |none=>rfl
 |some p=>
  obtain⟨h1,h2⟩:=iZ h
  have:=hT.2 p h1
  simp[xC,h2,cC] at this
theorem HW {T:List Pl} {V:List aC} (hT:Rt T) {p:Pl} (hp:p∈T):T.any (JH T V p)=marked T V p.1:=by
 have dz:p.1≠aS:=fun e=>by
  have:=hT.2 p hp
  simp[xC,e,cC] at this
 have hw: ∀{x w},Up T x w->within T x p.1=decide (p.1∈w):=fun {x w} h=>Hl h dz (V3 hT) _ (by have:=h.len;omega)
 rw[Bool.eq_iff_iff,List.any_eq_true,rk]
 constructor
 ·rintro⟨q,hq,h⟩
  simp only[JH,Bool.and_eq_true,decide_eq_true_eq] at h
  obtain⟨⟨h1,h2⟩,h3⟩:=h
  obtain⟨w,Ec⟩:=xF.1 h2
  rw[hw Ec] at h3
  exact⟨q.1,h1,w,Ec,by simpa using h3⟩
 ·rintro⟨x,hx,w,Ec,hm⟩
  obtain⟨q,hq⟩:=Ec.at
  obtain⟨q1,q2⟩:=iZ hq
  refine⟨q,q1,?_⟩
  simp only[JH,Bool.and_eq_true,decide_eq_true_eq,q2]
  exact⟨⟨hx,xF.2 ⟨w,Ec⟩⟩,by rw[hw Ec];simpa using hm⟩
theorem L0 {α:Type} (f:α->Bool) (l:List α) (d:α) {k:Nat} (h:k<l.length):(l.take (k+1)).any f=((l.take k).any f ||f (l.getD k d)):=by
 rw[List.take_add_one,getD_some h d]
 simp
theorem CT {α:Type} (f:α->Bool) (l:List α) (d:α) {k:Nat} (h:k<l.length):(l.take (k+1)).filter f=(l.take k).filter f++(if f (l.getD k d) then [l.getD k d] else []):=by
 rw[List.take_add_one,getD_some h d,List.filter_append]
 simp only[Option.toList_some,List.filter_cons,List.filter_nil]
theorem Rc {α β:Type} (f:α->β) (pre nw:List α) (b a:α) (u v:β) (hu:u=f b) (hv:v=f a):(((pre++b::a::nw).map f).set (pre.length+1) u).set pre.length v=(pre++a::b::nw).map f:=by
 subst hu
 subst hv
 simp
section
variable {X:XF}
theorem V4:LD X 89 8 (ae (aK 89 8) qcg):=LD.par (H:=[(91,QX),(119,qb9),(86,qb7)]) (hk:=[]) (by kernel_rfl) (by kernel_rfl) (.cons Yg (.cons qeY (.cons Yh .nil))) .nil
 (A:=List Pl×List aC×List Pl×Nat×Int×Bool) (B:=Bool×Bool×Int) (fun⟨l,v,o,m,i,_⟩ ⟨z,b,k⟩=>skI z l l.length v o m i b k)
 (fun⟨l,v,_,_,i,b0⟩ ⟨_,b,k⟩=>l.length<=1000000/\v.length<=1000000/\0<=i/\i<l.length/\0<=k/\k<=l.length/\b=(b0 || (l.take k.toNat).any (JH l v (l.getD i.toNat su))))
 (fun⟨l,_⟩ ⟨_,_,k⟩=>(l.length-k).toNat)
 (fun⟨l,v,o,m,i,b0⟩ x=> ∃z' b',b'=(b0 ||l.any (JH l v (l.getD i.toNat su)))/\x=(.exit 2,⟨62,[(0,.sl 0 0 l.length),(1,dx v),(5,.sl 1 0 m),(6,iD i),(7,.d (.bool b'))],JG 0 z' l++JG 1 false o⟩))
 (by
  rintro⟨l,v,o,m,i,b0⟩ ⟨z,b,k⟩ ⟨hm,hv,sX,hi,h0,hk,hb⟩
  dsimp only at*
  (rw[<-qe0];delta gW Z90 iz pQ MN Fc FM Zm rC ZM Zs ZI FH nr mx Zz qJ Za Z9 Zj LR C9 lD lE uZ js sE nA kS uK Zw kW Zg nO LU LV LW HU qe rO FK nN QA)
  refine bb (fun h=> ?_) fun h=> ?_
  ·have eb:k.toNat<l.length:=by omega
   have bc:i.toNat<l.length:=by omega
   have HI:=L0 (JH l v (l.getD i.toNat su)) l su eb
   rw[iy eb,iy bc]
   generalize l.getD k.toNat su=q at HI
   generalize l.getD i.toNat su=p at HI hb
   have fit:decide ((-9223372036854775808:Int)<=k+(1:Int)/\k+(1:Int)<=(9223372036854775807:Int))=true:=pZ (by omega) (by omega)
   have go: ∀z' b',b'=(b ||JH l v p q)-> ∃m',m'<((l.length:Int)-k).toNat/\ ∃b2:Bool×Bool×Int,(skI z' l l.length v o m i b' (k+1):S)=skI b2.1 l l.length v o m i b2.2.1 b2.2.2/\
     (l.length<=1000000/\v.length<=1000000/\0<=i/\i<l.length/\0<=b2.2.2/\b2.2.2<=l.length/\b2.2.1=(b0 || (l.take b2.2.2.toNat).any (JH l v p)))/\m'=((l.length:Int)-b2.2.2).toNat:=fun z' b' cU=>⟨((l.length:Int)-(k+1)).toNat,by omega,(z',b',k+1),rfl,⟨hm,hv,sX,hi,by simp only;omega,by simp only;omega,by
      simp only
      rw[show(k+1).toNat=k.toNat+1 by omega,HI,cU,hb,Bool.or_assoc]⟩,rfl⟩
   have dl:decide (k.toNat<(l.map bI).length)=true:=kx (by rw[List.length_map];exact eb)
   have di:decide (i.toNat<(l.map bI).length)=true:=kx (by rw[List.length_map];exact bc)
   refine bp ⟨h0,h⟩ (aq dl (aq (gL q) ⟨v,q.1,rfl,rfl,hv,aw (fun h1=>bp ⟨h0,h⟩ (aq dl (aq (gL q) ⟨l,q.1,by rw[vP];rfl,rfl,hm,fun b1 jk=>aw (fun h2=>bp ⟨h0,h⟩ (aq dl (aq (gL q) (bp ⟨sX,hi⟩ (aq di (aq (gL p) ⟨true,l,q.1,p.1,rfl,rfl,hm,fun b2 cu=>aw (fun h3=>aq fit (go _ _ ?_)) fun h3=>aq fit (go _ _ ?_)⟩)))))) fun h2=>aq fit (go _ _ ?_)⟩))) fun h1=>aq fit (go _ _ ?_)⟩))
   ·unfold JH
    rw[h1,<-jk,h2,<-cu,h3]
    simp
   ·unfold JH
    rw[h1,<-jk,h2,<-cu,h3]
    simp
   ·unfold JH
    rw[h1,<-jk,h2]
    simp
   ·unfold JH
    rw[h1]
    simp
  ·refine⟨z,b,?_,rfl⟩
   rw[hb,List.take_of_length_le (by omega)])
 (by
  rintro s post ⟨z,l,v,o,m,i,b,rfl,⟨hm,hv,sX,hi⟩,hp⟩
  refine⟨(l,v,o,m,i,b),(z,b,0),rfl,⟨hm,hv,sX,hi,by simp,by simp,by simp⟩,?_⟩
  rintro x ⟨z',b',h1,rfl⟩
  exact hp z' b' h1)
theorem V5:LD X 89 4 (ae (aK 89 4) qch):=LD.par (H:=[]) (hk:=[(8,ae (aK 89 8) qcg)]) (by kernel_rfl) (by kernel_rfl) .nil (.cons V4 .nil)
 (A:=List Pl×List aC) (B:=Bool×Int) (fun a b=>skH b.1 a.1 a.1.length a.2 ((a.1.take b.2.toNat).filter fun p=>marked a.1 a.2 p.1) ((a.1.take b.2.toNat).filter fun p=>marked a.1 a.2 p.1).length b.2)
 (fun a b=>a.1.length<=1000000/\a.2.length<=1000000/\Rt a.1/\0<=b.2/\b.2<=a.1.length)
 (fun a b=>(a.1.length-b.2).toNat)
 (fun a x=>x=(.exit 0,⟨62,[(5,.sl 0 0 (a8 a.1 a.2).length)],JG 0 false (a8 a.1 a.2)⟩))
 (by
  rintro⟨l,v⟩ ⟨z,i⟩ ⟨hm,hv,hT,h0,hi⟩
  dsimp only at*
  (rw[<-qe1];delta gW MN FL Zz ZA Zg nO LU LV LW VU Z8E Zm Zy Za Z9 Zj Z8D rO qe FK js uK nA iz pQ sE Fc FM Z7 MI Z3 Zs ZI FH nr mx qJ QA)
  refine bb (fun h=> ?_) fun h=> ?_
  ·have bc:i.toNat<l.length:=by omega
   have kK:=CT (fun p:Pl=>marked l v p.1) l su bc
   have EU:l.getD i.toNat su∈l:=List.mem_of_getElem? (getD_some bc su)
   have yH:((l.take i.toNat).filter fun p=>marked l v p.1).length<=l.length:=Nat.le_trans (List.length_filter_le _ _) (by rw[List.length_take];omega)
   refine⟨z,l,v,_,_,i,false,rfl,⟨hm,hv,h0,h⟩,fun z' b' cU=> ?_⟩
   rw[HW hT EU] at cU
   rw[iy bc]
   generalize l.getD i.toNat su=p at kK cU
   generalize hoo:((l.take i.toNat).filter fun p=>marked l v p.1)=o at kK yH
   have fit:decide ((-9223372036854775808:Int)<=i+(1:Int)/\i+(1:Int)<=(9223372036854775807:Int))=true:=pZ (by omega) (by omega)
   have go: ∀o',((l.take (i+1).toNat).filter fun p=>marked l v p.1)=o'-> ∃m',m'<((l.length:Int)-i).toNat/\ ∃b2:Bool×Int,(skH z' l l.length v o' o'.length (i+1):S)=skH b2.1 l l.length v ((l.take b2.2.toNat).filter fun p=>marked l v p.1) ((l.take b2.2.toNat).filter fun p=>marked l v p.1).length b2.2/\
     (l.length<=1000000/\v.length<=1000000/\Rt l/\0<=b2.2/\b2.2<=l.length)/\m'=((l.length:Int)-b2.2).toNat:=fun o' lW=>⟨((l.length:Int)-(i+1)).toNat,by omega,(z',i+1),by simp only;rw[lW],⟨hm,hv,hT,by simp only;omega,by simp only;omega⟩,rfl⟩
   have hs:(i+1).toNat=i.toNat+1:=by omega
   refine aw (fun hb=>bp ⟨h0,h⟩ (aq (kx (by rw[List.length_map];exact bc)) (aq (gL p) (aq ?_ (aq fit ?_))))) fun hb=>aq fit ?_
   ·simp[aT]
    omega
   ·have:=go (o++[p]) (by rw[hs,kK,if_pos (by rw[<-hb,cU];rfl)])
    rw[vP]
    have e1:(o++[p]).length=o.length+1:=by simp
    have e2:(o++[p]).map bI=o.map bI++[bI p]:=by simp
    simp only[skH,JG,e1,e2] at this
    exact this
   ·exact go o (by
     have:marked l v p.1=false:=by rw[<-hb,cU];rfl
     rw[hs,kK,this]
     simp)
  ·rw[List.take_of_length_le (by omega)]
   rfl)
 (by
  rintro s post ⟨l,v,rfl,⟨hm,hv⟩,hp⟩
  have htl:=CP l
  refine⟨(oa l,v),(false,0),rfl,⟨by simp only;omega,hv,QP l,by simp,by simp⟩,?_⟩
  rintro x rfl
  exact hp)
theorem Re:FD X 89 HV:=FD.mk (H:=[(118,hRi)]) (hk:=[(4,ae (aK 89 4) qch)]) (by kernel_rfl) (.cons qgS .nil) (.cons V5 .nil) (by
 intro ps R post hh
 obtain⟨l,v,rfl,rfl,⟨hm,hv⟩,hp⟩:=hh
 (rw[<-qgU];delta Z92 uK yC Z8K Z7 CD yy nr mx Z91 js nA Zw gW kS)
 exact⟨l,rfl,rfl,hm,l,v,rfl,⟨hm,hv⟩,hp⟩)
theorem JI {l:List It} {i:Nat} (h:i<l.length) (x:It) (hx:l[i]?=some x):D.nth (l.map fg) i=fg x:=by
 rw[qb4 h it0]
 congr 1
 rw[List.getD_eq_getElem?_getD,hx]
 rfl
theorem V6:LD X 56 9 (ae (aK 56 9) qci):=LD.par (H:=[]) (hk:=[]) (by kernel_rfl) (by kernel_rfl) .nil .nil
 (A:=Bool×List Pl×Nat×List aC×List It×It×Int) (B:=List It×List It) (fun⟨z,l,n,v,o,a,i⟩ ⟨pre,nw⟩=>imI z l n v (pre++a::nw) (o.length+1) i (pre.length:Int))
 (fun⟨_,_,_,_,o,a,_⟩ ⟨pre,nw⟩=>o.length<=1000000/\pre.length+nw.length=o.length/\(nj E6 a pre.reverse).reverse++nw=dy E6 o a)
 (fun _ ⟨pre,_⟩=>pre.length)
 (fun⟨z,l,n,v,o,a,i⟩ x=>x=(.exit 2,imH z l n v (dy E6 o a) (o.length+1) i))
 (by
  rintro⟨z,l,n,v,o,a,i⟩ ⟨pre,nw⟩ ⟨hm,hl,hr⟩
  dsimp only at*
  (rw[<-qe2];delta Z9a gW FM Zs tI V2 Zz ZA nr mx Z9b Zg Rb Z96 Zr Vl Zc SI Z97 Yi AL Za Z9 Zb Z93 nN Zq)
  rcases List.eq_nil_or_concat pre with rfl | ⟨pre,b,rfl⟩
  ·refine kq (ky (by simp)) ?_
   show _=_
   rw[<-hr]
   rfl
  ·simp only[List.concat_eq_append] at*
   rw[List.length_append,List.length_singleton] at hl
   have gh:(((pre++[b]).length:Int)).toNat=pre.length+1:=by simp
   have qX:(((pre++[b]).length:Int)-1).toNat=pre.length:=by simp
   rw[gh,qX]
   have hlen:(((pre++[b])++a::nw).map fg).length=pre.length+nw.length+2:=by simp;omega
   have n1:D.nth (((pre++[b])++a::nw).map fg) (pre.length+1)=fg a:=JI (by simp) _ (by simp)
   have n2:D.nth (((pre++[b])++a::nw).map fg) pre.length=fg b:=JI (by simp) _ (by simp)
   have n3: ∀u,D.nth ((((pre++[b])++a::nw).map fg).set (pre.length+1) u) pre.length=fg b:=fun u=>by
    rw[<-n2]
    simp only[D.nth,List.getD_eq_getElem?_getD]
    rw[List.getElem?_set_ne (by omega)]
   have hc:(((pre++[b]).length:Nat):Int)=(pre.length:Int)+1:=by simp
   rw[hc]
   rw[n1,n2]
   simp only[List.length_set,hlen,n3]
   have dl: ∀x,x<pre.length+nw.length+2->decide (x<pre.length+nw.length+2)=true:=fun x h=>kx h
   refine fw (kx (by omega)) ?_
   repeat (first
    |refine aq (kx (show _/\_ from⟨by omega,by omega⟩)) ?_
    |refine aq (kx (show _<_ by omega)) ?_
    |refine aq (qeQ _) ?_)
   refine aw (fun bk=> ?_) fun bk=> ?_
   ·repeat (first
     |refine aq (kx (show _/\_ from⟨by omega,by omega⟩)) ?_
     |refine aq (kx (show _<_ by omega)) ?_
     |refine aq (qeQ _) ?_)
    have Nw:E6 a b=true:=bk
    refine⟨pre.length,by simp,(pre,b::nw),?_,⟨hm,by simp only[List.length_cons];omega,?_⟩,rfl⟩
    ·have hsw:=Rc fg pre nw b a (fg b) (fg a) rfl rfl
     show _=imI z l n v (pre++a::b::nw) (o.length+1) i (pre.length:Int)
     have WT:(pre.length:Int)+1-1=(pre.length:Int):=by omega
     rw[WT]
     simp only[imI,LZ]
     rw[<-hsw]
     simp only[List.append_assoc,List.singleton_append]
     rfl
    ·simp only
     rw[<-hr,List.reverse_append,List.reverse_singleton,List.singleton_append,nj,if_pos Nw]
     simp
   ·have Nw: ¬E6 a b=true:=by rw[show E6 a b=false from bk];simp
    show _=_
    rw[List.reverse_append,List.reverse_singleton,List.singleton_append,nj,if_neg Nw] at hr
    rw[<-hr]
    simp)
 (by
  rintro s post ⟨z,l,n,v,o,a,i,k,rfl,⟨hk,hm⟩,hp⟩
  subst hk
  refine⟨(z,l,n,v,o,a,i),(o,[]),rfl,⟨hm,by simp,by simp[dy]⟩,?_⟩
  rintro x rfl
  exact hp)
theorem V7:LD X 56 4 (ae (aK 56 4) qcj):=LD.par (H:=[(90,hPa),(91,QX)]) (hk:=[(9,ae (aK 56 9) qci)]) (by kernel_rfl) (by kernel_rfl) (.cons qgT (.cons Yg .nil)) (.cons V6 .nil)
 (A:=List Pl×List aC) (B:=Bool×Int) (fun⟨T,v⟩ ⟨z,i⟩=>imH z (a8 T v) (a8 T v).length v (cN E6 (((a8 T v).take i.toNat).map (kL T v))) (cN E6 (((a8 T v).take i.toNat).map (kL T v))).length i)
 (fun⟨T,v⟩ ⟨_,i⟩=>T.length<=1000/\Rt T/\v.length<=1000000/\0<=i/\i<=(a8 T v).length)
 (fun⟨T,v⟩ ⟨_,i⟩=>((a8 T v).length-i).toNat)
 (fun⟨T,v⟩ x=>x=(.exit 0,⟨77,[(6,.sl 0 0 (jr T v).length)],LZ 0 (jr T v)⟩))
 (by
  rintro⟨T,v⟩ ⟨z,i⟩ ⟨hm,hT,hv,h0,hi⟩
  dsimp only at*
  have hsL:(a8 T v).length<=T.length:=List.length_filter_le _ _
  (rw[<-qe3];delta Z9a Zz Zm ZJ Za Z9 Zj gW FM Zs Ly Z90 tI ZA nr mx Zg nO LU LV LW Z9c uK lD lE uZ kW HU js Zw MP Q0 Q5 Q6 VX VY VZ Z8W VU qe rO FK nN QA)
  refine bb (fun h=> ?_) fun h=> ?_
  ·have bc:i.toNat<(a8 T v).length:=by omega
   have EU:(a8 T v).getD i.toNat su∈a8 T v:=List.mem_of_getElem? (getD_some bc su)
   have vM:((a8 T v).take (i+1).toNat).map (kL T v)=((a8 T v).take i.toNat).map (kL T v)++[kL T v ((a8 T v).getD i.toNat su)]:=by
    rw[show(i+1).toNat=i.toNat+1 by omega,List.take_add_one,getD_some bc su]
    simp
   have nM:(cN E6 (((a8 T v).take i.toNat).map (kL T v))).length=i.toNat:=by
    rw[(cW _).length_eq,List.length_map,List.length_take]
    omega
   have MB:cN E6 (((a8 T v).take (i+1).toNat).map (kL T v))=dy E6 (cN E6 (((a8 T v).take i.toNat).map (kL T v))) (kL T v ((a8 T v).getD i.toNat su)):=by
    rw[vM]
    unfold cN
    rw[List.foldl_append]
    rfl
   rw[iy bc]
   generalize (a8 T v).getD i.toNat su=p at EU MB
   generalize cN E6 (((a8 T v).take i.toNat).map (kL T v))=o at nM MB
   have qe4:(cN E6 (((a8 T v).take (i+1).toNat).map (kL T v))).length=o.length+1:=by
    rw[MB,(jQ _ _).length_eq]
    simp
   have fit:decide ((-9223372036854775808:Int)<=i+(1:Int)/\i+(1:Int)<=(9223372036854775807:Int))=true:=pZ (by omega) (by omega)
   refine bp ⟨h0,h⟩ (aq (kx (by rw[List.length_map];exact bc)) (aq (gL p) ⟨T,v,p,by rw[vP];rfl,rfl,⟨hm,hT,EU⟩,v,p.1,rfl,rfl,hv,aq ?_ (aq ?_ ⟨true,a8 T v,(a8 T v).length,v,o,kL T v p,i,((o.length+1:Nat):Int)-1,?_,⟨by omega,by omega⟩,aq fit ⟨((a8 T v).length-(i+1)).toNat,by omega,(true,i+1),?_,⟨hm,hT,hv,by simp only;omega,by simp only;omega⟩,rfl⟩⟩)⟩))
   ·simp[aT]
    omega
   ·refine kx (show(-9223372036854775808:Int)<=((o.length+1:Nat):Int)-1/\((o.length+1:Nat):Int)-1<=9223372036854775807 from⟨by omega,by omega⟩)
   ·have e2:(o++[kL T v p]).map fg=(o.map fg).take o.length++[fg (kL T v p)]:=by
     rw[List.take_of_length_le (by simp)]
     simp
    rw[e2]
    rfl
   ·simp only
    rw[qe4,MB]
    rfl
  ·have qe5:(a8 T v).take i.toNat=a8 T v:=List.take_of_length_le (by omega)
   rw[qe5]
   rfl)
 (by
  rintro s post ⟨T,v,rfl,⟨hm,hT,hv⟩,hp⟩
  refine⟨(T,v),(false,0),rfl,⟨hm,hT,hv,by simp,by simp⟩,?_⟩
  rintro x rfl
  exact hp)
theorem Rf:FD X 56 CS:=FD.mk (H:=[(89,HV)]) (hk:=[(4,ae (aK 56 4) qcj)]) (by kernel_rfl) (.cons Re .nil) (.cons V7 .nil) (by
 intro ps R post hh
 obtain⟨l,v,rfl,rfl,⟨hm,hv⟩,hp⟩:=hh
 (rw[<-qgV];delta js SJ Z92 Z7 ZZ yy Z9d nr mx uK nA Zw gW kS)
 have htl:=CP l
 exact⟨l,v,rfl,rfl,⟨by omega,hv⟩,oa l,v,rfl,⟨by omega,QP l,hv⟩,hp⟩)
end
end Pi
namespace Pi
open Go Go.Proofs
abbrev Td:=aC×Pl
def ltT (a b:Td):Bool:=Aq a.1 b.1
def ltN (a b:Pl):Bool:=Aq a.1 b.1
def SK (o:List Td) (t:Td):List Td:=if(o.any fun x=>x.1==t.1)=true then o else dy ltT o t
def HX (a:List aC) (p:List Pl):List Td:=(a.zip p).foldl SK []
def Rg (o:List Pl) (t:Td):List Pl:=
 if t.2.1=aS\/within o t.2.2.1 t.2.1=true then o
 else if 0<=eC o t.2.1 then o.set (eC o t.2.1).toNat (t.2.1,t.2.2.1,t.2.2.2.1,(o.getD (eC o t.2.1).toNat su).2.2.2) else dy ltN o t.2
def L1 (l:List Td):List Pl:=l.foldl Rg []
def zr (x:Pl) (o:a7):List Pl:=if o.kind=0/\o.node=x.1 then [(x.1,x.2.1,x.2.2.1,o.dir)] else []
def mdG (x:Pl) (g:aj):List Pl:=g.ops.flatMap (zr x)
def Db (l:List aj) (x:Pl):List Pl:=l.flatMap (mdG x)
def FO (l:List aj) (p:List Pl):List Pl:=p.flatMap (Db l)
def Rh (gone:List cd) (o:List aC) (d:cd):List aC:=if d∈gone\/d.1∈o then o else dy Aq o d.1
def L2 (hv gone:List cd):List aC:=hv.foldl (Rh gone) []
theorem V8 (o:List Td) (t:Td):(SK o t).length<=o.length+1:=by
 unfold SK
 split
 ·omega
 ·rw[(jQ _ _).length_eq]
  simp
theorem JJ: ∀(l o:List Td),(l.foldl SK o).length<=o.length+l.length
 | [],_=>by simp
 |x::r,o=>by
  have:=JJ r (SK o x)
  have:=V8 o x
  simp only[List.foldl_cons,List.length_cons]
  omega
theorem vQ (a:List aC) (p:List Pl):(HX a p).length<=a.length:=by
 have:=JJ (a.zip p) []
 simp only[List.length_zip,List.length_nil] at this
 unfold HX
 omega
theorem V9 (o:List Pl) (t:Td):(Rg o t).length<=o.length+1:=by
 unfold Rg
 split
 ·omega
 ·split
  ·simp
  ·rw[(jQ _ _).length_eq]
   simp
theorem JK: ∀(l:List Td) (o:List Pl),(l.foldl Rg o).length<=o.length+l.length
 | [],_=>by simp
 |x::r,o=>by
  have:=JK r (Rg o x)
  have:=V9 o x
  simp only[List.foldl_cons,List.length_cons]
  omega
theorem CU (l:List Td):(L1 l).length<=l.length:=by simpa [L1] using JK l []
theorem Wa (g:List cd) (o:List aC) (d:cd):(Rh g o d).length<=o.length+1:=by
 unfold Rh
 split
 ·omega
 ·rw[(jQ _ _).length_eq]
  simp
theorem Fe (g:List cd): ∀(l:List cd) (o:List aC),(l.foldl (Rh g) o).length<=o.length+l.length
 | [],_=>by simp
 |x::r,o=>by
  have:=Fe g r (Rh g o x)
  have:=Wa g o x
  simp only[List.foldl_cons,List.length_cons]
  omega
theorem JL (hv g:List cd):(L2 hv g).length<=hv.length:=by simpa [L2] using Fe g hv []
theorem Wb {s:ax} {k n:Int} {o:a7} (h:pK s k o=some n):0<=n:=by
 unfold pK at h
 split at h
 ·cases h
 ·split at h
  ·split at h<;>cases h;decide
  ·split at h
   ·split at h<;>cases h;decide
   ·split at h
    ·split at h<;>cases h;decide
    ·split at h
     ·split at h
      ·rename_i hh
       cases h
       have:=hh.2.2.2
       unfold o5 at this
       rw[Bool.and_eq_true,decide_eq_true_eq] at this
       omega
      ·cases h
     ·split at h
      ·split at h<;>cases h;decide
      ·cases h
theorem Ri {s:ax} {k n:Int} {o:a7} (h:pK s k o=some n) (h0:o.kind=0):o.node=(s.1,s.2,k)/\n=1:=by
 unfold pK at h
 rw[if_pos h0] at h
 split at h
 ·cases h
 ·split at h
  ·rename_i hh
   cases h
   exact⟨hh.1,rfl⟩
  ·cases h
theorem JM (x:Pl) (o:a7):(zr x o).length<=1:=by
 unfold zr
 split<;>simp
theorem JN {s:ax} (x:Pl): ∀(l:List a7) (k:Int),jo s k l=true->(l.flatMap (zr x)).length<=1/\(l.flatMap (zr x)≠[]-> ∃j,k<=j/\x.1=(s.1,s.2,j))
 | [],_,_=>⟨by simp,fun h=>absurd rfl h⟩
 |o::r,k,h=>by
  unfold jo at h
  split at h
  ·rename_i n hn
   obtain⟨h1,h2⟩:=JN x r _ h
   have h3:=Wb hn
   rw[List.flatMap_cons]
   by_cases ho:o.kind=0/\o.node=x.1
   ·obtain⟨h4,h5⟩:=Ri hn ho.1
    have hx:x.1=(s.1,s.2,k):=by rw[<-ho.2,h4]
    have hr:r.flatMap (zr x)=[]:=Classical.byContradiction fun hr=>by
     obtain⟨j,h6,h7⟩:=h2 hr
     rw[hx] at h7
     injection h7 with _ h7
     injection h7 with _ h7
     omega
    rw[hr,List.append_nil]
    exact⟨JM x o,fun _=>⟨k,Int.le_refl _,hx⟩⟩
   ·have:zr x o=[]:=by unfold zr;rw[if_neg ho]
    rw[this,List.nil_append]
    exact⟨h1,fun hr=>by obtain⟨j,h6,h7⟩:=h2 hr;exact⟨j,by omega,h7⟩⟩
  ·cases h
theorem JO {l:List aj} (x:Pl):(∀g∈l,cQ g=true)->(l.map (·.s)).Nodup->(Db l x).length<=1/\(Db l x≠[]-> ∃g∈l,g.s=FA x.1):=by
 induction l with
 |nil=>exact fun _ _=>⟨by simp[Db],fun h=>absurd rfl h⟩
 |cons g r ih=>
  intro hc hn
  rw[List.map_cons,List.nodup_cons] at hn
  obtain⟨h1,h2⟩:=ih (fun y hy=>hc y (.tail _ hy)) hn.2
  obtain⟨h3,h4⟩:=JN x g.ops 0 (Jy (hc g (.head _)))
  have e:Db (g::r) x=g.ops.flatMap (zr x)++Db r x:=rfl
  rw[e]
  by_cases hg:g.ops.flatMap (zr x)=[]
  ·rw[hg,List.nil_append]
   exact⟨h1,fun h=>by obtain⟨y,hy,e⟩:=h2 h;exact⟨y,.tail _ hy,e⟩⟩
  ·obtain⟨j,_,hx⟩:=h4 hg
   have hs:g.s=FA x.1:=by rw[hx]
   have hr:Db r x=[]:=Classical.byContradiction fun hr=>by
    obtain⟨y,hy,e⟩:=h2 hr
    exact hn.1 (List.mem_map.2 ⟨y,hy,by rw[e,hs]⟩)
   rw[hr,List.append_nil]
   exact⟨h3,fun _=>⟨g,.head _,hs⟩⟩
theorem CV {l:List aj} (hc: ∀g∈l,cQ g=true) (hn:(l.map (·.s)).Nodup): ∀p:List Pl,(FO l p).length<=p.length
 | []=>by simp[FO]
 |x::r=>by
  have h1:=CV hc hn r
  have h2:=(JO x hc hn).1
  have e:FO l (x::r)=Db l x++FO l r:=rfl
  rw[e,List.length_append,List.length_cons]
  omega
end Pi
namespace Pi
open Go Go.Proofs
set_option maxRecDepth 100000
set_option maxHeartbeats 0
def kM (d:cd):D:= .agg [iE d.1.1,iE d.1.2.1,iE d.1.2.2,iE d.2.1,iE d.2.2]
abbrev rG (l:List cd):P:= .d (.sl 5 (l.map kM))
abbrev qgW (x:cd):Obj:= .box 106 [iD x.1.1,iD x.1.2.1,iD x.1.2.2,iD x.2.1,iD x.2.2]
abbrev qe6 (z:Bool) (l:List cd):Obj:= .arr 106 z (l.map kM)
abbrev rH (z:Bool) (l:List aC):Obj:= .arr 50 z (l.map bH)
abbrev po (z:Bool) (l:List Pl):Obj:= .arr 104 z (l.map bI)
abbrev Wc (l:List cd) (x:cd) (i:Int):S:=⟨18,[(0,rG l),(3,.ref 0 0 0),(5,iD i)],[(0,⟨0,none,qgW x⟩)]⟩
def Z9j (x:cd):List (Nat×En):=[(0,En.mk 0 none (Obj.box (106:TypeId) [P.d (D.int IntKind.i64 (Prod.fst (Prod.fst x))),P.d (D.int IntKind.i64 (Prod.fst (Prod.snd (Prod.fst x)))),P.d (D.int IntKind.i64 (Prod.snd (Prod.snd (Prod.fst x)))),P.d (D.int IntKind.i64 (Prod.fst (Prod.snd x))),P.d (D.int IntKind.i64 (Prod.snd (Prod.snd x)))]))]
def JP (l:List cd):P:=P.d (D.sl 5 (List.map kM l))
def Dc (l:List cd):Nat×P:=(0,JP l)
def AQ (l:List cd) (i:Int):D:=D.nth (List.map kM l) (Zg i)
def Z9f (i:Int) (l:List cd):Bool:=decide ((0:Int)<=i/\i<(↑(List.length (List.map kM l)):Int))
theorem Yj (l:List cd) (x:cd) (i:Int) (post:PX×S->Prop):(bif decide (i<(↑(List.length (List.map kM l)):Int)) then bif Z9f i l then bif cX PR (106:TypeId) (AQ l i) then bif D.ah (D.ao (AQ l i) 0)==Prod.fst (Prod.fst x)&&(D.ah (D.ao (AQ l i) 1)==Prod.fst (Prod.snd (Prod.fst x))&&true)&&(D.ah (D.ao (AQ l i) 2)==Prod.snd (Prod.snd (Prod.fst x))&&true)&&(D.ah (D.ao (AQ l i) 3)==Prod.fst (Prod.snd x)&&(D.ah (D.ao (AQ l i) 4)==Prod.snd (Prod.snd x)&&true)&&true) then post (PX.ret,S.mk 18 E8 []) else bif Zj i then post (PX.normal,S.mk 18 (Dc l::dG::Zn i) (Z9j x)) else False else False else False else post (PX.exit 0,S.mk 18 [] []))=(aF [] [] 92 2 (Wc l x i)) post:=by kernel_rfl
def qck:S->K (PX×S):=fun s post=> ∃l x,s=Wc l x 0/\l.length<=1000000/\(x∈l->post (.ret,⟨18,[(4,.d (.bool true))],[]⟩))/\(x∉l->post (.exit 0,⟨18,[],[]⟩))
def Rj (ar:List cd):Prop:=List.length ar<=1000000
theorem qgX (l:List cd) (x:cd) (post:P×List (Nat×En)->Prop):(∃(ar:List cd) (aM:cd),S.mk 18 (Dc l::dG::ZL) (Z9j x)=S.mk 18 (Dc ar::dG::ZL) (Z9j aM)/\Rj ar/\(aM∈ar->ZN post)/\(¬aM∈ar->Z4 post))=(aH [] [(2,ae (aK 92 2) qck)] 92 [rG l,.d (kM x)] []) post:=by kernel_rfl
def qcl:bm:=fun ps R post=> ∃l x,ps=[rG l,.d (kM x)]/\R=[]/\l.length<=1000000/\ ∀b,b=decide (x∈l)->post (.d (.bool b),[])
abbrev qf (x:ax):Obj:= .box 30 [iD x.1,iD x.2]
abbrev Wd (l:List ax) (x:ax) (i:Int):S:=⟨18,[(0,fE l),(3,.ref 0 0 0),(5,iD i)],[(0,⟨0,none,qf x⟩)]⟩
def Z9l (l:List ax) (i:Int) (x:ax):Bool:=EE l i==Prod.fst x&&(FB l i==Prod.snd x&&true)
theorem Yk (l:List ax) (x:ax) (i:Int) (post:PX×S->Prop):(bif Mz i l then bif I8 i l then bif vG l i then bif Z9l l i x then post (PX.ret,S.mk 18 (LJ l::E8) []) else bif Zj i then post (PX.normal,S.mk 18 (LJ l::dG::Zn i) (EW x)) else False else False else False else post (PX.exit 0,S.mk 18 [LJ l] []))=(aF [] [] 42 2 (Wd l x i)) post:=by kernel_rfl
abbrev Wf (l:List ax) (x:ax) (i:Int):S:=⟨18,[(0,.sl 0 0 l.length),(3,.ref 1 0 0),(5,iD i)],[(0,⟨0,some 0,nV false l⟩),(1,⟨0,none,qf x⟩)]⟩
def Z9n (l:List ax) (x:ax):List (Nat×En):=[(0,En.mk 0 (some 0) (nW l)),(1,tG x)]
def Yl (l:List ax):Nat×P:=(0,P.sl 0 0 (dV l))
theorem Rk (l:List ax) (x:ax) (i:Int) (post:PX×S->Prop):(bif decide (i<(↑(dV l):Int)) then bif decide ((0:Int)<=i/\i<(↑(dV l):Int)) then bif Sz i l then bif vG l i then bif Z9l l i x then post (PX.ret,S.mk 18 (Yl l::E8) (Jv l)) else bif Zj i then post (PX.normal,S.mk 18 (Yl l::ME i) (Z9n l x)) else False else False else False else False else post (PX.exit 0,S.mk 18 [Yl l] (Jv l)))=(aF [] [] 42 2 (Wf l x i)) post:=by kernel_rfl
def qcm:S->K (PX×S):=fun s post=> ∃l x,s=Wd l x 0/\l.length<=1000000/\(x∈l->post (.ret,⟨18,[(0,fE l),(4,.d (.bool true))],[]⟩))/\(x∉l->post (.exit 0,⟨18,[(0,fE l)],[]⟩))
def Rl:S->K (PX×S):=fun s post=> ∃l x,s=Wf l x 0/\l.length<=1000000/\(x∈l->post (.ret,⟨18,[(0,.sl 0 0 l.length),(4,.d (.bool true))],[(0,⟨0,some 0,nV false l⟩)]⟩))/\(x∉l->post (.exit 0,⟨18,[(0,.sl 0 0 l.length)],[(0,⟨0,some 0,nV false l⟩)]⟩))
theorem qgY (l:List ax) (x:ax) (post:P×List (Nat×En)->Prop):(∃(ar:List ax) (aM:ax),S.mk 18 (LJ l::dG::ZL) (EW x)=S.mk 18 (LJ ar::dG::ZL) (EW aM)/\nz ar/\(aM∈ar->ZN post)/\(¬aM∈ar->Z4 post))=(aH [] [(2,ae (aK 42 2) qcm)] 42 [fE l,.d (aX x)] []) post:=by kernel_rfl
theorem qe7 (l:List ax) (x:ax) (post:P×List (Nat×En)->Prop):(∃(ar:List ax) (aM:ax),S.mk 18 (Yl l::Lq) (Z9n l x)=S.mk 18 (Yl ar::Lq) (Z9n ar aM)/\nz ar/\(aM∈ar->post (ZM,Jv ar))/\(¬aM∈ar->post (P.d Z3,Jv ar)))=(aH [] [(2,ae (aK 42 2) Rl)] 42 [.sl 0 0 l.length,.d (aX x)] [(0,⟨0,some 0,nV false l⟩)]) post:=by kernel_rfl
def L3:bm:=fun ps R post=> ∃l x,ps=[fE l,.d (aX x)]/\R=[]/\l.length<=1000000/\ ∀b,b=decide (x∈l)->post (.d (.bool b),[])
def Rm:bm:=fun ps R post=> ∃l x,ps=[.sl 0 0 l.length,.d (aX x)]/\R=[(0,⟨0,some 0,nV false l⟩)]/\l.length<=1000000/\ ∀b,b=decide (x∈l)->post (.d (.bool b),[(0,⟨0,some 0,nV false l⟩)])
abbrev Wg (l:List aC) (x:aC) (i:Int):S:=⟨18,[(0,.sl 0 0 l.length),(3,.ref 1 0 0),(5,iD i)],[(0,⟨0,some 0,rH false l⟩),(1,⟨0,none,.box 50 [iD x.1,iD x.2.1,iD x.2.2]⟩)]⟩
def Wh (l:List aC):Nat×En:=(0,En.mk 0 (some 0) (Obj.arr (50:TypeId) false (List.map bH l)))
def Rn (l:List aC):List (Nat×En):=[Wh l]
def Ff (l:List aC):P:=P.sl 0 0 (List.length l)
def Z9o (i:Int) (l:List aC):Bool:=decide (Zg i<tB l)
theorem Ro (l:List aC) (x:aC) (i:Int) (post:PX×S->Prop):(bif decide (i<(↑(List.length l):Int)) then bif decide ((0:Int)<=i/\i<(↑(List.length l):Int)) then bif Z9o i l then bif Az l i then bif Z8g l i x then post (PX.ret,S.mk 18 ((0,Ff l)::E8) (Rn l)) else bif Zj i then post (PX.normal,S.mk 18 ((0,Ff l)::ME i) (Wh l::ML x)) else False else False else False else False else post (PX.exit 0,S.mk 18 [(0,Ff l)] (Rn l)))=(aF [] [] 91 2 (Wg l x i)) post:=by kernel_rfl
def Rp:S->K (PX×S):=fun s post=> ∃l x,s=Wg l x 0/\l.length<=1000000/\(x∈l->post (.ret,⟨18,[(0,.sl 0 0 l.length),(4,.d (.bool true))],[(0,⟨0,some 0,rH false l⟩)]⟩))/\(x∉l->post (.exit 0,⟨18,[(0,.sl 0 0 l.length)],[(0,⟨0,some 0,rH false l⟩)]⟩))
theorem qe8 (l:List aC) (x:aC) (post:P×List (Nat×En)->Prop):(∃(ar:List aC) (aM:aC),S.mk 18 ((0,Ff l)::Lq) (Wh l::ML x)=S.mk 18 ((0,Ff ar)::Lq) (Wh ar::ML aM)/\uK ar/\(aM∈ar->post (ZM,Rn ar))/\(¬aM∈ar->post (P.d Z3,Rn ar)))=(aH [] [(2,ae (aK 91 2) Rp)] 91 [.sl 0 0 l.length,.d (bH x)] [(0,⟨0,some 0,rH false l⟩)]) post:=by kernel_rfl
def Rq:bm:=fun ps R post=> ∃l x,ps=[.sl 0 0 l.length,.d (bH x)]/\R=[(0,⟨0,some 0,rH false l⟩)]/\l.length<=1000000/\ ∀b,b=decide (x∈l)->post (.d (.bool b),[(0,⟨0,some 0,rH false l⟩)])
abbrev lvI (h g:List cd) (o:List aC) (n:Nat) (i k:Int):S:=⟨72,[(0,rG h),(1,rG g),(5,.sl 0 0 n),(6,iD i),(8,iD k)],[(0,⟨0,none,rH false o⟩)]⟩
def SL (o:List aC):List (Nat×En):=[(0,En.mk 0 none (Obj.arr (50:TypeId) false (List.map bH o)))]
def MQ (g:List cd):Nat×P:=(1,JP g)
def Z9s (o:List aC) (k:Int):List D:=List.set (List.map bH o) (Zg k) (D.aY (D.agg (O1 o k)) (Xx o k))
theorem qe9 (h g:List cd) (o:List aC) (n:Nat) (i k:Int) (post:PX×S->Prop):(bif Zq k then bif nN k n then bif Z9o k o then bif Az o k then bif Zb k then bif AL k n then bif decide (Zc k<tB o) then bif UC o k then∃(t:Int) (r:Int) (aJ:Int) (t':Int) (r':Int) (i':Int),[P.d (D.agg (O1 o k)),P.d (D.agg (Xx o k))]=V0 t r aJ t' r' i'/\Zw/\bif decide (qB t r aJ t' r' i'<(0:Int)) then bif Zb k then bif Zb k then bif AL k n then bif decide (Zc k<tB o) then bif UC o k then bif nN k n then bif Z9o k o then bif Az o k then bif nN k n then bif Z9o k o then bif Az o k then bif AL k n then bif decide (Zc k<List.length (Z9s o k)) then bif cX PR (50:TypeId) (D.nth (Z9s o k) (Zc k)) then bif Zb k then post (PX.normal,S.mk 72 [Dc h,MQ g,ZA n,ZI i,(8,Zr k)] [(0,En.mk 0 none (Obj.arr (50:TypeId) false (List.set (Z9s o k) (Zc k) (D.aY (D.agg [D.int IntKind.i64 (D.ah (D.ao (D.nth (Z9s o k) (Zc k)) 0)),D.int IntKind.i64 (D.ah (D.ao (D.nth (Z9s o k) (Zc k)) 1)),D.int IntKind.i64 (D.ah (D.ao (D.nth (Z9s o k) (Zc k)) 2))]) (O1 o k)))))]) else False else False else False else False else False else False else False else False else False else False else False else False else False else False else False else post (PX.exit 2,S.mk 72 [Dc h,MQ g,ZA n,ZI i] (SL o)) else False else False else False else False else False else False else False else post (PX.exit 2,S.mk 72 [Dc h,MQ g,ZA n,ZI i] (SL o)))=(aF [(88,kC)] [] 57 9 (lvI h g o n i k)) post:=by kernel_rfl
abbrev lvH (h g:List cd) (o:List aC) (i:Int):S:=⟨72,[(0,rG h),(1,rG g),(5,.sl 0 0 o.length),(6,iD i)],[(0,⟨0,none,rH false o⟩)]⟩
def qcn:S->K (PX×S):=fun st post=> ∃h g o x n i k,st=lvI h g (o++[x]) n i k/\(k=(o.length:Int)/\n=o.length+1/\o.length<=1000000)/\ ∀o',o'=dy Aq o x->post (.exit 2,lvH h g o' i)
def Z9w (h:List cd) (i:Int):D:=D.agg [D.int IntKind.i64 (D.ah (D.ao (AQ h i) 0)),D.int IntKind.i64 (D.ah (D.ao (AQ h i) 1)),D.int IntKind.i64 (D.ah (D.ao (AQ h i) 2))]
def Z9x (o:List aC) (h:List cd) (i:Int):Nat:=List.length o+List.length [Z9w h i]
def Z9v (i:Int) (post:PX×S->Prop) (h:List cd) (g:List cd) (o:List aC):Prop:=bif Zj i then post (PX.normal,S.mk 72 (Dc h::MQ g::(5,Ff o)::Zy i) (SL o)) else False
theorem Ym (h g:List cd) (o:List aC) (i:Int) (post:PX×S->Prop):(bif decide (i<(↑(List.length (List.map kM h)):Int)) then bif Z9f i h then bif cX PR (106:TypeId) (AQ h i) then bif Z9f i h then bif cX PR (106:TypeId) (AQ h i) then∃(l:List cd) (x:cd),[JP g,P.d (D.agg [D.int IntKind.i64 (D.ah (D.ao (AQ h i) 0)),D.int IntKind.i64 (D.ah (D.ao (AQ h i) 1)),D.int IntKind.i64 (D.ah (D.ao (AQ h i) 2)),D.int IntKind.i64 (D.ah (D.ao (AQ h i) 3)),D.int IntKind.i64 (D.ah (D.ao (AQ h i) 4))])]=[JP l,P.d (D.agg [D.int IntKind.i64 (Prod.fst (Prod.fst x)),D.int IntKind.i64 (Prod.fst (Prod.snd (Prod.fst x))),D.int IntKind.i64 (Prod.snd (Prod.snd (Prod.fst x))),D.int IntKind.i64 (Prod.fst (Prod.snd x)),D.int IntKind.i64 (Prod.snd (Prod.snd x))])]/\Zw/\Rj l/\ ∀(b:Bool),b=decide (x∈l)->bif b then Z9v i post h g o else∃(l:List aC) (x:aC),[Ff o,P.d (Z9w h i)]=Ff l::kW x/\Rn o=Rn l/\uK l/\ ∀(b:Bool),b=decide (x∈l)->bif b then bif Zj i then post (PX.normal,S.mk 72 (Dc h::MQ g::(5,Ff o)::Zy i) (SL l)) else False else bif Nat.ble (List.length o) (tB l)&&aT (Z9x o h i) 24 then bif decide (Z9<=(↑(Z9x o h i):Int)-(1:Int)/\(↑(Z9x o h i):Int)-(1:Int)<=Za) then∃(uI:List cd) (aO:List cd) (aQ:List aC) (x:aC) (n:Nat) (aJ:Int) (k:Int),S.mk 72 [Dc h,MQ g,(5,P.sl 0 0 (Z9x o h i)),ZI i,(8,P.d (D.int IntKind.i64 ((↑(Z9x o h i):Int)-(1:Int))))] [(0,En.mk 0 none (Obj.arr (50:TypeId) false (List.take (List.length o) (List.map bH l)++[Z9w h i])))]=S.mk 72 [Dc uI,MQ aO,ZA n,ZI aJ,zq k] [(0,En.mk 0 none (Obj.arr (50:TypeId) false (List.map bH (aQ++[x]))))]/\(k=(↑(List.length aQ):Int)/\n=List.length aQ+1/\uK aQ)/\ ∀(o':List aC),o'=dy Aq aQ x->Z9v aJ post uI aO o' else False else False else False else False else False else False else post (PX.exit 0,S.mk 72 [(5,Ff o)] (SL o)))=(aF [(92,qcl),(91,Rq)] [(9,ae (aK 57 9) qcn)] 57 3 (lvH h g o i)) post:=by kernel_rfl
def gLv:S->K (PX×S):=fun s post=> ∃h g,s=lvH h g [] 0/\(h.length<=1000000/\g.length<=1000000)/\ ∀o,o=L2 h g->post (.exit 0,⟨72,[(5,.sl 0 0 o.length)],[(0,⟨0,none,rH false o⟩)]⟩)
def SM:En:=En.mk 0 none (Obj.arr (50:TypeId) false [])
def Z9z (h:List cd) (g:List cd):S:=S.mk 72 (Dc h::MQ g::(5,ZO)::CD) [(0,SM)]
theorem qgZ (h g:List cd) (post:P×List (Nat×En)->Prop):(∃(uI:List cd) (aO:List cd),Z9z h g=Z9z uI aO/\(Rj uI/\Rj aO)/\ ∀(o:List aC),o=L2 uI aO->post (Ff o,SL o))=(aH [] [(3,ae (aK 57 3) gLv)] 57 [rG h,rG g] []) post:=by kernel_rfl
def Rr:bm:=fun ps R post=> ∃h g,ps=[rG h,rG g]/\R=[]/\(h.length<=1000000/\g.length<=1000000)/\ ∀o,o=L2 h g->post (.sl 0 0 o.length,[(0,⟨0,none,rH false o⟩)])
end Pi
