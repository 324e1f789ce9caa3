/- The text PiDraw. -/
import Derived.Test.YtdgkdigdflkjhaaGreatDoorPiCode
namespace Pi
open Go
def aB(o:Oper):=
 match o.op with
 | .move _ | .pick .. | .unOp .. | .index .. | .field .. | .extract .. | .build ..=>0
 | .assign (.const (.slice none 0 0))=>2
 | .assign _=>0
 | .nilCheck _ | .binOp .. | .load .. | .fieldAddr .. | .indexAddr .. | .slice _ _ _ _ none=>1
 | .convert ..=>1
 | .alloc _ | .box .. | .makeMap ..=>2
 | .lookup .. | .entry _=>1
 | .buildSlice ..=>if Nat.beq o.type 4000000 then 0 else 3
 | .call c=>match c.callee with
  | .builtin .len=>1
  | .builtin .min | .builtin .max=>0
  |_=>3
 |_=>3
def Ts:Operand->List Nat
 | .tmp t=>[t]
 |_=>[]
def looks(ops:List Oper)(o:Oper):=
 o.op.operands.toList.flatMap Ts++
 (match o.guard with
  |some (g,_)=>(match ops[g]? with |some oj=>(match oj.dst with |some t=>[t]|none=>[])|none=>[])
  |none=>[])
def Dg(o:Oper) l:=match o.dst with |some d=>iw d l |none=>false
def EV(x y:Oper):=match x.dst,y.dst with |some d,some e=>Nat.beq d e |_,_=>false
def lB(acc:List Nat):List Edge->Nat
 | []=>0
 |e::es=>if Region.binds .any e then(Nat.lor (Nat.lor (Nat.shiftLeft 1 e.on) (acc.getD e.on 0)) (lB acc es)) else lB acc es
def masks:List Oper->List Nat->List Nat
 | [],acc=>acc
 |o::r,acc=>masks r (acc++[lB acc o.after.toList])
def jB{α:Type}(f:Nat->α->Bool):Nat->List α->Bool
 |_,[]=>true
 |i,x::r=>f i x&&jB f (i+1) r
def ia{α:Type}(f:Nat->α->Nat->α->Bool):Nat->List α->Bool
 |_,[]=>true
 |i,x::r=>jB (f i x) (i+1) r&&ia f (i+1) r
def Qd M i (o:Oper):=
 Nat.beq (M.getD i 0) (lB M o.after.toList)&&o.after.toList.all (λe=> !Region.binds .any e ||Nat.blt e.on i)&&
 (match o.guard with |none=>true |some (j,_)=>Nat.testBit (M.getD i 0) j)
def NA ops (M:List Nat) i x j y:=
 !EV x y&&(Nat.testBit (M.getD j 0) i || (!Dg x (looks ops y)&& !Dg y (looks ops x)&&(Nat.ble (aB x) 1 ||Nat.ble (aB y) 1)))
def qx(m:Nat) ops (M:List Nat) i x j y:=
 !EV x y&&(Nat.testBit (M.getD j 0) i || (!Dg x (looks ops y)&& !Dg y (looks ops x)&&(Nat.ble (aB x) 1 ||Nat.ble (aB y) 1 ||Nat.beq j m)))
theorem Dh{m ops M i j}{x y}(h:NA ops M i x j y=true):qx m ops M i x j y=true:=by simp only[NA,qx,zac,za8] at h⊢;exact⟨h.1,h.2.imp id λh=>⟨h.1,.inl h.2⟩⟩
def Tt m ops (M:List Nat) i (_:Oper):=
 !Nat.testBit (M.getD i 0) m ||jB (λx px=>Nat.ble m x ||Nat.ble (aB px) 1 ||Nat.testBit (M.getD i 0) x) 0 ops
def kN(o:Oper):Option (TypeId×Nat):=match o.op,o.guard,o.dst with | .alloc t,none,some d=>some (t,d)|_,_,_=>none
def Tv x y:=Nat.beq (aB x) 0 ||Nat.beq (aB y) 0 || (Nat.ble (aB x) 1&&Nat.ble (aB y) 1)
def dA ops:=
 if jB (Qd (masks ops [])) 0 ops&&ia (NA ops (masks ops [])) 0 ops then
  (if ia (λi x j y=>Nat.testBit ((masks ops []).getD j 0) i ||Tv x y) 0 ops then 2 else 1) else 0
def bH:List P->List Nat
 | []=>[]
 | .sl n _ _::r=>n::bH r
 | .mG n _ _ _ _::r=>n::bH r
 |_::r=>bH r
def writes(Q:Program)(s:S)(o:Oper)(g:Option (Nat×Bool)):List Nat×Nat×Nat:=
 match dn Q o with
 |some _=>([site o.dst],0,0)
 |none=>match o.op with
  | .alloc t=>match eK Q t with |some z=>([site o.dst],site o.dst*1000,site o.dst*1000+z.cells.length)|none=>([],0,0)
  | .box _ x=>([site o.dst],site o.dst*1000,site o.dst*1000+(s.eg g x).cells.length)
  | .store _ ad x=>match s.eg g ad with
   | .ref n _ off=>(n::bH (s.eg g x).cells,2000000+n*1000+off,2000000+n*1000+off+1)
   | .dJ n _ _ _ _=>(n::bH (s.eg g x).cells,0,0)
   |_=>([],0,0)
  | .call c=>match c.callee with
   | .value f=>(match s.eg g f with
    | .fn jZ cW=>(match cZ Q s jZ (c.args.toList.map (s.eg g)++cW) with
     |some (s1,qs)=>(bH ((c.args.toList.map (s.eg g)++cW).flatMap P.cells)++reach s1.rg 1000 qs [],site o.dst*1000,site o.dst*1000+1000)
     |none=>([],0,0))
    |_=>([],0,0))
   | .builtin .append=>(match c.args.toList with
    |x::_=>(match s.eg g x with | .sl n _ _=>([n],0,0)|_=>([site o.dst],0,0))
    | []=>([],0,0))
   | .builtin .copy=>(match c.args.toList with
    |x::_=>(match s.eg g x with | .sl n _ _=>([n],0,0)|_=>([],0,0))
    | []=>([],0,0))
   | .builtin .clear=>(match c.args.toList with
    |x::_=>(match s.eg g x with | .mG n _ _ _ _=>([n],0,0)|_=>([],0,0))
    | []=>([],0,0))
   | .builtin .delete=>(match c.args.toList with
    |x::_=>(match s.eg g x with | .mp n _=>([n],0,0)|_=>([],0,0))
    | []=>([],0,0))
   |_=>([],0,0)
  | .makeSlice .. | .makeMap ..=>([site o.dst],0,0)
  | .mapUpdate _ m _ x=>(match s.eg g m with | .mp n _=>n::bH (s.eg g x).cells |_=>[],0,0)
  | .insert _ m _ x=>(match s.eg g m with | .mp n _=>n::bH (s.eg g x).cells |_=>[],0,0)
  | .mapEntry _ m _=>(match s.eg g m with | .mp n _=>[site o.dst,n]|_=>[site o.dst],0,0)
  | .entryStore _ m _ x=>(match s.eg g m with | .mp n _=>n::bH (s.eg g x).cells |_=>[],0,0)
  | .range _ x=>(match s.eg g x with | .mp n _=>[site o.dst,n]|_=>[site o.dst],0,0)
  | .buildSlice _ _ parts=>(site o.dst::parts.toList.flatMap λx=>bH (s.eg g x.2).cells,0,0)
  |_=>([],0,0)
def rp:List P->List Nat
 | []=>[]
 |p::r=>match p.name with |some (n,_)=>n::rp r |none=>rp r
structure Info where
 pure:Bool
 ns:List Nat
 ws:List Nat×Nat×Nat
def bP(Q:Program)(ops:List Oper)(s:S)(o:Oper):Info:=
 match br ops o with
 |none=>⟨false,[],[],0,0⟩
 |some g=>if Nat.ble (aB o) 1 then⟨true,if Nat.beq (aB o) 0 then [] else rp (o.op.operands.toList.map (s.eg g)),[],0,0⟩ else⟨false,[],writes Q s o g⟩
def NB(ns:List Nat)(W:List Nat×Nat×Nat):=ns.all λn=> !iw n W.1&& !(Nat.ble W.2.1 n&&Nat.blt n W.2.2)
def ny(x y:Info):=
 if x.pure then(if y.pure then true else NB x.ns y.ws) else(if y.pure then NB y.ns x.ws else false)
structure Step where
 info:Info
 bef:List (Nat×En)
 aft:List (Nat×En)
 look:Option TypeId
 ent:Option (TypeId×Nat)
def Lm(o:Oper):=match o.op with | .lookup t _ _ false=>some t |_=>none
def Tw(o:Oper):=match o.op with | .mapEntry t _ _=>some (t,site o.dst)|_=>none
def nZ(Q:Program)(ops:List Oper)(s:S)(o:Oper)(s1:S):Step:=⟨bP Q ops s o,s.rg,s1.rg,Lm o,Tw o⟩
def leaves(x y:Step)(same:Prop->Prop)(q:Prop):=
 match y.ent,x.look with
 |some (t,n),some t'=>cond (Nat.beq t t'&& !iw n x.info.ns) q (same q)
 |_,_=>same q
def Tx(W:List Nat×Nat×Nat) n:=iw n W.1 || (Nat.ble W.2.1 n&&Nat.blt n W.2.2)
def uo:List Nat->Step->Prop->Prop
 | [],_,q=>q
 |n::r,y,q=>cond (Tx y.info.ws n) (lk y.aft n=lk y.bef n/\uo r y q) (uo r y q)
def jb(m:Nat)(M:List Nat) i x j y (q:Prop):=
 cond (Nat.testBit (M.getD j 0) i ||ny x.info y.info) q (cond x.info.pure (cond y.info.pure q (leaves x y (uo x.info.ns y) q)) (cond y.info.pure (leaves y x (uo y.info.ns x) q) (cond (Nat.beq j m) q False)))
def Qe(f:Nat->Step->Prop->Prop):Nat->List Step->Prop->Prop
 |_,[],q=>q
 |i,x::r,q=>f i x (Qe f (i+1) r q)
def vS(f:Nat->Step->Nat->Step->Prop->Prop):Nat->List Step->Prop->Prop
 |_,[],q=>q
 |i,x::r,q=>Qe (f i x) (i+1) r (vS f (i+1) r q)
def qy m M l (q:Prop):=vS (jb m M) 0 l q
def qz(Q:Program)(cf:CF)(ops:List Oper):List Oper->S->Option (S×List Step)
 | [],s=>some (s,[])
 |o::r,s=>match bu Q cf ops s o with
  |none=>none
  |some s1=>match qz Q cf ops r s1 with
   |some (s2,l)=>some (s2,nZ Q ops s o s1::l)
   |none=>none
def qad(ops:List Oper)(o:Oper):=
 match o.op,o.dst with
 | .buildSlice _ len _,some d=>ops.any λp=>match p.op with
  | .call c=>(match c.callee,c.args.toList with | .builtin .append,[_,.tmp u]=>Nat.beq u d | .value (.func _),us=>Nat.beq len 1&&us.any (λu=>match u with | .tmp u=>Nat.beq u d |_=>false)|_,_=>false)
  |_=>false
 |_,_=>false
def lC ops o:=if qad ops o then {o with type:=4000000} else o
def da(ops:List Oper):=ops.map (lC ops)
def vT(ops:List Oper)(M:List Nat):Nat->List Oper->Option (Nat×TypeId×Nat)
 |_,[]=>none
 |j,o::r=>match kN o with
  |some (t,d)=>if jB (λi x=>Nat.ble j i ||Nat.ble (aB x) 1 ||Nat.testBit (M.getD j 0) i) 0 ops then vT ops M (j+1) r else some (j,t,d)
  |none=>vT ops M (j+1) r
def EW ops:=vT ops (masks ops []) 0 ops
def EX ops m:=jB (Qd (masks ops [])) 0 ops&&ia (qx m ops (masks ops [])) 0 ops&&jB (Tt m ops (masks ops [])) 0 ops
def lD(ops:List Oper):Nat:=
 match dA ops with
 |0=>(match dA (da ops) with
  |0=>(match EW ops with |some (m,_,_)=>if EX ops m then 6 else 0 |none=>0)
  |k+1=>k+4)
 |k+1=>k+1
open Classical in
noncomputable def jL(Q:Program)(cf:CF)(ops:List Oper)(s:S):Option S:=
 match dA ops with
 |0=>none
 |1=>(match qz Q cf ops ops s with
  |some (s1,l)=>if qy 0 (masks ops []) l True then some s1 else none
  |none=>none)
 |_=>dF Q cf ops ops s
open Classical in
noncomputable def ur(Q:Program)(cf:CF)(ops:List Oper)(s:S):Option S:=
 match EW ops with
 |some (m,t,d)=>if EX ops m=true/\sg Q t=false/\lk s.tm d=none then(match qz Q cf ops ops s with
  |some (s1,l)=>if qy m (masks ops []) l True then some s1 else none
  |none=>none) else none
 |none=>none
noncomputable def jC(Q:Program)(cf:CF)(ops:List Oper)(s:S):Option S:=
 match dA ops with
 |0=>(match dA (da ops) with
  |0=>ur Q cf ops s
  |_=>jL Q cf (da ops) s)
 |_=>jL Q cf ops s
end Pi
