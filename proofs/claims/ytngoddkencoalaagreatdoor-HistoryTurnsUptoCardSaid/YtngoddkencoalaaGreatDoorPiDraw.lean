/- The text PiDraw. -/
import Derived.Test.YtngoddkencoalaaGreatDoorPiCode
namespace Pi
open Go
def aF(o:Oper):Nat:=
 match o.op with
 | .move _ | .pick .. | .unOp .. | .index .. | .field .. | .extract .. | .build ..=>0
 | .assign (.const (.slice none 0 0))=>2
 | .assign _=>0
 | .nilCheck _ | .binOp .. | .load .. | .fieldAddr .. | .indexAddr .. | .slice _ _ _ _ none=>1
 | .convert ..=>1
 | .alloc _ | .box .. | .makeMap ..=>2
 | .lookup .. | .entry _=>1
 | .buildSlice ..=>if Nat.beq o.type 4000000 then 0 else 3
 | .call c=>match c.callee with
  | .builtin .len=>1
  | .builtin .min | .builtin .max=>0
  |_=>3
 |_=>3
def Rv:Operand->List Nat
 | .tmp t=>[t]
 |_=>[]
def looks(ops:List Oper)(o:Oper):List Nat:=
 o.op.operands.toList.flatMap Rv++
 (match o.guard with
  |some (g,_)=>(match ops[g]? with |some oj=>(match oj.dst with |some t=>[t]|none=>[])|none=>[])
  |none=>[])
def Ch(o:Oper)(l:List Nat):Bool:=match o.dst with |some d=>gZ d l |none=>false
def DI(x y:Oper):Bool:=match x.dst,y.dst with |some d,some e=>Nat.beq d e |_,_=>false
def lq(acc:List Nat):List Edge->Nat
 | []=>0
 |e::es=>if Region.binds .any e then(Nat.lor (Nat.lor (Nat.shiftLeft 1 e.on) (acc.getD e.on 0)) (lq acc es)) else lq acc es
def masks:List Oper->List Nat->List Nat
 | [],acc=>acc
 |o::r,acc=>masks r (acc++[lq acc o.after.toList])
def jr{α:Type}(f:Nat->α->Bool):Nat->List α->Bool
 |_,[]=>true
 |i,x::r=>f i x&&jr f (i+1) r
def gM{α:Type}(f:Nat->α->Nat->α->Bool):Nat->List α->Bool
 |_,[]=>true
 |i,x::r=>jr (f i x) (i+1) r&&gM f (i+1) r
def Oo(M:List Nat)(i:Nat)(o:Oper):Bool:=
 Nat.beq (M.getD i 0) (lq M o.after.toList)&&o.after.toList.all (λe=> !Region.binds .any e ||Nat.blt e.on i)&&
 (match o.guard with |none=>true |some (j,_)=>Nat.testBit (M.getD i 0) j)
def Mg(ops:List Oper)(M:List Nat)(i:Nat)(x:Oper)(j:Nat)(y:Oper):Bool:=
 !DI x y&&(Nat.testBit (M.getD j 0) i || (!Ch x (looks ops y)&& !Ch y (looks ops x)&&(Nat.ble (aF x) 1 ||Nat.ble (aF y) 1)))
def qf(m:Nat)(ops:List Oper)(M:List Nat)(i:Nat)(x:Oper)(j:Nat)(y:Oper):Bool:=
 !DI x y&&(Nat.testBit (M.getD j 0) i || (!Ch x (looks ops y)&& !Ch y (looks ops x)&&(Nat.ble (aF x) 1 ||Nat.ble (aF y) 1 ||Nat.beq j m)))
theorem Ci{m:Nat}{ops:List Oper}{M:List Nat}{i j:Nat}{x y:Oper}(h:Mg ops M i x j y=true):qf m ops M i x j y=true:=by simp only[Mg,qf,zab,zbh] at h⊢;exact⟨h.1,h.2.imp id λh=>⟨h.1,.inl h.2⟩⟩
def Rw(m:Nat)(ops:List Oper)(M:List Nat)(i:Nat)(_:Oper):Bool:=
 !Nat.testBit (M.getD i 0) m ||jr (λx px=>Nat.ble m x ||Nat.ble (aF px) 1 ||Nat.testBit (M.getD i 0) x) 0 ops
def kF(o:Oper):Option (TypeId×Nat):=match o.op,o.guard,o.dst with | .alloc t,none,some d=>some (t,d)|_,_,_=>none
def Rx(x y:Oper):Bool:=Nat.beq (aF x) 0 ||Nat.beq (aF y) 0 || (Nat.ble (aF x) 1&&Nat.ble (aF y) 1)
def dp(ops:List Oper):Nat:=
 if jr (Oo (masks ops [])) 0 ops&&gM (Mg ops (masks ops [])) 0 ops then
  (if gM (λi x j y=>Nat.testBit ((masks ops []).getD j 0) i ||Rx x y) 0 ops then 2 else 1) else 0
def bE:List P->List Nat
 | []=>[]
 | .sl n _ _::r=>n::bE r
 | .mb n _ _ _ _::r=>n::bE r
 |_::r=>bE r
def writes(Q:Program)(s:S)(o:Oper)(g:Option (Nat×Bool)):List Nat×Nat×Nat:=
 match db Q o with
 |some _=>([site o.dst],0,0)
 |none=>match o.op with
  | .alloc t=>match ez Q t with |some z=>([site o.dst],site o.dst*1000,site o.dst*1000+z.cells.length)|none=>([],0,0)
  | .box _ x=>([site o.dst],site o.dst*1000,site o.dst*1000+(s.eg g x).cells.length)
  | .store _ ad x=>match s.eg g ad with
   | .ref n _ off=>(n::bE (s.eg g x).cells,2000000+n*1000+off,2000000+n*1000+off+1)
   | .dD n _ _ _ _=>(n::bE (s.eg g x).cells,0,0)
   |_=>([],0,0)
  | .call c=>match c.callee with
   | .value f=>(match s.eg g f with
    | .fn kW cQ=>(match cV Q s kW (c.args.toList.map (s.eg g)++cQ) with
     |some (s1,qs)=>(bE ((c.args.toList.map (s.eg g)++cQ).flatMap P.cells)++reach s1.rg 1000 qs [],site o.dst*1000,site o.dst*1000+1000)
     |none=>([],0,0))
    |_=>([],0,0))
   | .builtin .append=>(match c.args.toList with
    |x::_=>(match s.eg g x with | .sl n _ _=>([n],0,0)|_=>([site o.dst],0,0))
    | []=>([],0,0))
   | .builtin .copy=>(match c.args.toList with
    |x::_=>(match s.eg g x with | .sl n _ _=>([n],0,0)|_=>([],0,0))
    | []=>([],0,0))
   | .builtin .clear=>(match c.args.toList with
    |x::_=>(match s.eg g x with | .mb n _ _ _ _=>([n],0,0)|_=>([],0,0))
    | []=>([],0,0))
   |_=>([],0,0)
  | .makeSlice .. | .makeMap ..=>([site o.dst],0,0)
  | .mapUpdate _ m _ x=>(match s.eg g m with | .mp n _=>n::bE (s.eg g x).cells |_=>[],0,0)
  | .insert _ m _ x=>(match s.eg g m with | .mp n _=>n::bE (s.eg g x).cells |_=>[],0,0)
  | .mapEntry _ m _=>(match s.eg g m with | .mp n _=>[site o.dst,n]|_=>[site o.dst],0,0)
  | .entryStore _ m _ x=>(match s.eg g m with | .mp n _=>n::bE (s.eg g x).cells |_=>[],0,0)
  | .range _ x=>(match s.eg g x with | .mp n _=>[site o.dst,n]|_=>[site o.dst],0,0)
  | .buildSlice _ _ parts=>(site o.dst::parts.toList.flatMap λx=>bE (s.eg g x.2).cells,0,0)
  |_=>([],0,0)
def qU:List P->List Nat
 | []=>[]
 |p::r=>match p.name with |some (n,_)=>n::qU r |none=>qU r
structure Info where
 pure:Bool
 ns:List Nat
 ws:List Nat×Nat×Nat
def bL(Q:Program)(ops:List Oper)(s:S)(o:Oper):Info:=
 match bj ops o with
 |none=>⟨false,[],[],0,0⟩
 |some g=>if Nat.ble (aF o) 1 then⟨true,if Nat.beq (aF o) 0 then [] else qU (o.op.operands.toList.map (s.eg g)),[],0,0⟩ else⟨false,[],writes Q s o g⟩
def Mh(ns:List Nat)(W:List Nat×Nat×Nat):Bool:=ns.all λn=> !gZ n W.1&& !(Nat.ble W.2.1 n&&Nat.blt n W.2.2)
def mT(x y:Info):Bool:=
 if x.pure then(if y.pure then true else Mh x.ns y.ws) else(if y.pure then Mh y.ns x.ws else false)
structure Step where
 info:Info
 bef:List (Nat×En)
 aft:List (Nat×En)
 look:Option TypeId
 ent:Option (TypeId×Nat)
def JV(o:Oper):Option TypeId:=match o.op with | .lookup t _ _ false=>some t |_=>none
def Ry(o:Oper):Option (TypeId×Nat):=match o.op with | .mapEntry t _ _=>some (t,site o.dst)|_=>none
def nz(Q:Program)(ops:List Oper)(s:S)(o:Oper)(s1:S):Step:=⟨bL Q ops s o,s.rg,s1.rg,JV o,Ry o⟩
def leaves(x y:Step)(same:Prop->Prop)(q:Prop):Prop:=
 match y.ent,x.look with
 |some (t,n),some t'=>cond (Nat.beq t t'&& !gZ n x.info.ns) q (same q)
 |_,_=>same q
def Rz(W:List Nat×Nat×Nat)(n:Nat):Bool:=gZ n W.1 || (Nat.ble W.2.1 n&&Nat.blt n W.2.2)
def tF:List Nat->Step->Prop->Prop
 | [],_,q=>q
 |n::r,y,q=>cond (Rz y.info.ws n) (lk y.aft n=lk y.bef n/\tF r y q) (tF r y q)
def iI(m:Nat)(M:List Nat)(i:Nat)(x:Step)(j:Nat)(y:Step)(q:Prop):Prop:=
 cond (Nat.testBit (M.getD j 0) i ||mT x.info y.info) q (cond x.info.pure (cond y.info.pure q (leaves x y (tF x.info.ns y) q)) (cond y.info.pure (leaves y x (tF y.info.ns x) q) (cond (Nat.beq j m) q False)))
def Oq(f:Nat->Step->Prop->Prop):Nat->List Step->Prop->Prop
 |_,[],q=>q
 |i,x::r,q=>f i x (Oq f (i+1) r q)
def vn(f:Nat->Step->Nat->Step->Prop->Prop):Nat->List Step->Prop->Prop
 |_,[],q=>q
 |i,x::r,q=>Oq (f i x) (i+1) r (vn f (i+1) r q)
def qg(m:Nat)(M:List Nat)(l:List Step)(q:Prop):Prop:=vn (iI m M) 0 l q
def qh(Q:Program)(cf:CF)(ops:List Oper):List Oper->S->Option (S×List Step)
 | [],s=>some (s,[])
 |o::r,s=>match br Q cf ops s o with
  |none=>none
  |some s1=>match qh Q cf ops r s1 with
   |some (s2,l)=>some (s2,nz Q ops s o s1::l)
   |none=>none
def YS(ops:List Oper)(o:Oper):Bool:=
 match o.op,o.dst,o.guard with
 | .buildSlice ..,some d,none=>ops.any λp=>match p.op with
  | .call c=>(match c.callee,c.args.toList with | .builtin .append,[_,.tmp u]=>Nat.beq u d |_,_=>false)
  |_=>false
 |_,_,_=>false
def lr(ops:List Oper)(o:Oper):Oper:=if YS ops o then {o with type:=4000000} else o
def cX(ops:List Oper):List Oper:=ops.map (lr ops)
def vo(ops:List Oper)(M:List Nat):Nat->List Oper->Option (Nat×TypeId×Nat)
 |_,[]=>none
 |j,o::r=>match kF o with
  |some (t,d)=>if jr (λi x=>Nat.ble j i ||Nat.ble (aF x) 1 ||Nat.testBit (M.getD j 0) i) 0 ops then vo ops M (j+1) r else some (j,t,d)
  |none=>vo ops M (j+1) r
def DJ(ops:List Oper):Option (Nat×TypeId×Nat):=vo ops (masks ops []) 0 ops
def DK(ops:List Oper)(m:Nat):Bool:=jr (Oo (masks ops [])) 0 ops&&gM (qf m ops (masks ops [])) 0 ops&&jr (Rw m ops (masks ops [])) 0 ops
def lu(ops:List Oper):Nat:=
 match dp ops with
 |0=>(match dp (cX ops) with
  |0=>(match DJ ops with |some (m,_,_)=>if DK ops m then 6 else 0 |none=>0)
  |k+1=>k+4)
 |k+1=>k+1
open Classical in
noncomputable def jD(Q:Program)(cf:CF)(ops:List Oper)(s:S):Option S:=
 match dp ops with
 |0=>none
 |1=>(match qh Q cf ops ops s with
  |some (s1,l)=>if qg 0 (masks ops []) l True then some s1 else none
  |none=>none)
 |_=>dz Q cf ops ops s
open Classical in
noncomputable def tG(Q:Program)(cf:CF)(ops:List Oper)(s:S):Option S:=
 match DJ ops with
 |some (m,t,d)=>if DK ops m=true/\rM Q t=false/\lk s.tm d=none then(match qh Q cf ops ops s with
  |some (s1,l)=>if qg m (masks ops []) l True then some s1 else none
  |none=>none) else none
 |none=>none
noncomputable def js(Q:Program)(cf:CF)(ops:List Oper)(s:S):Option S:=
 match dp ops with
 |0=>(match dp (cX ops) with
  |0=>tG Q cf ops s
  |_=>jD Q cf (cX ops) s)
 |_=>jD Q cf ops s
end Pi
