/- The text PiDraw. -/
import Derived.Test.YtfelfooeclnbiaaPiCode
namespace Pi
open Go
def aj(o:Oper):Nat:=
 match o.op with
 | .move _ | .pick .. | .unOp .. | .index .. | .field .. | .extract .. | .build ..=>0
 | .assign (.const (.slice none 0 0))=>2
 | .assign _=>0
 | .nilCheck _ | .binOp .. | .load .. | .fieldAddr .. | .indexAddr .. | .slice _ _ _ _ none=>1
 | .convert ..=>1
 | .alloc _ | .box .. | .makeMap ..=>2
 | .lookup .. | .entry _=>1
 | .buildSlice ..=>if Nat.beq o.type 4000000 then 0 else 3
 | .call c=>match c.callee with
  | .builtin .len=>1
  | .builtin .min | .builtin .max=>0
  |_=>3
 |_=>3
def vY:Operand->List Nat
 | .tmp t=>[t]
 |_=>[]
def looks(ops:List Oper)(o:Oper):List Nat:=
 o.op.operands.toList.flatMap vY++
 (match o.guard with
  |some (g,_)=>(match ops[g]? with |some oj=>(match oj.dst with |some t=>[t]|none=>[])|none=>[])
  |none=>[])
def oe(o:Oper)(l:List Nat):Bool:=match o.dst with |some d=>dQ d l |none=>false
def pc(x y:Oper):Bool:=match x.dst,y.dst with |some d,some e=>Nat.beq d e |_,_=>false
def eJ(acc:List Nat):List Edge->Nat
 | []=>0
 |e::es=>if Region.binds .any e then(Nat.lor (Nat.lor (Nat.shiftLeft 1 e.on) (acc.getD e.on 0)) (eJ acc es)) else eJ acc es
def masks:List Oper->List Nat->List Nat
 | [],acc=>acc
 |o::r,acc=>masks r (acc++[eJ acc o.after.toList])
def dD{α:Type}(f:Nat->α->Bool):Nat->List α->Bool
 |_,[]=>true
 |i,x::r=>f i x&&dD f (i+1) r
def cO{α:Type}(f:Nat->α->Nat->α->Bool):Nat->List α->Bool
 |_,[]=>true
 |i,x::r=>dD (f i x) (i+1) r&&cO f (i+1) r
def um(M:List Nat)(i:Nat)(o:Oper):Bool:=
 Nat.beq (M.getD i 0) (eJ M o.after.toList)&&o.after.toList.all (λe=> !Region.binds .any e ||Nat.blt e.on i)&&
 (match o.guard with |none=>true |some (j,_)=>Nat.testBit (M.getD i 0) j)
def tp(ops:List Oper)(M:List Nat)(i:Nat)(x:Oper)(j:Nat)(y:Oper):Bool:=
 !pc x y&&(Nat.testBit (M.getD j 0) i || (!oe x (looks ops y)&& !oe y (looks ops x)&&(Nat.ble (aj x) 1 ||Nat.ble (aj y) 1)))
def hB(m:Nat)(ops:List Oper)(M:List Nat)(i:Nat)(x:Oper)(j:Nat)(y:Oper):Bool:=
 !pc x y&&(Nat.testBit (M.getD j 0) i || (!oe x (looks ops y)&& !oe y (looks ops x)&&(Nat.ble (aj x) 1 ||Nat.ble (aj y) 1 ||Nat.beq j m)))
theorem og{m:Nat}{ops:List Oper}{M:List Nat}{i j:Nat}{x y:Oper}(h:tp ops M i x j y=true):hB m ops M i x j y=true:=by simp only[tp,hB,zac,zbm] at h⊢;exact⟨h.1,h.2.imp id λh=>⟨h.1,.inl h.2⟩⟩
def vZ(m:Nat)(ops:List Oper)(M:List Nat)(i:Nat)(_:Oper):Bool:=
 !Nat.testBit (M.getD i 0) m ||dD (λx px=>Nat.ble m x ||Nat.ble (aj px) 1 ||Nat.testBit (M.getD i 0) x) 0 ops
def ek(o:Oper):Option (TypeId×Nat):=match o.op,o.guard,o.dst with | .alloc t,none,some d=>some (t,d)|_,_,_=>none
def v7(x y:Oper):Bool:=Nat.beq (aj x) 0 ||Nat.beq (aj y) 0 || (Nat.ble (aj x) 1&&Nat.ble (aj y) 1)
def bs(ops:List Oper):Nat:=
 if dD (um (masks ops [])) 0 ops&&cO (tp ops (masks ops [])) 0 ops then
  (if cO (λi x j y=>Nat.testBit ((masks ops []).getD j 0) i ||v7 x y) 0 ops then 2 else 1) else 0
def aH:List P->List Nat
 | []=>[]
 | .sl n _ _::r=>n::aH r
 | .e9 n _ _ _ _::r=>n::aH r
 |_::r=>aH r
def writes(Q:Program)(s:S)(o:Oper)(g:Option (Nat×Bool)):List Nat×Nat×Nat:=
 match bj Q o with
 |some _=>([site o.dst],0,0)
 |none=>match o.op with
  | .alloc t=>match bS Q t with |some z=>([site o.dst],site o.dst*1000,site o.dst*1000+z.cells.length)|none=>([],0,0)
  | .box _ x=>([site o.dst],site o.dst*1000,site o.dst*1000+(s.eg g x).cells.length)
  | .store _ ad x=>match s.eg g ad with
   | .ref n _ off=>(n::aH (s.eg g x).cells,2000000+n*1000+off,2000000+n*1000+off+1)
   | .bE n _ _ _ _=>(n::aH (s.eg g x).cells,0,0)
   |_=>([],0,0)
  | .call c=>match c.callee with
   | .value f=>(match s.eg g f with
    | .fn gZ cl=>(match bn Q s gZ (c.args.toList.map (s.eg g)++cl) with
     |some (s1,qs)=>(aH ((c.args.toList.map (s.eg g)++cl).flatMap P.cells)++reach s1.rg 1000 qs [],site o.dst*1000,site o.dst*1000+1000)
     |none=>([],0,0))
    |_=>([],0,0))
   | .builtin .append=>(match c.args.toList with
    |x::_=>(match s.eg g x with | .sl n _ _=>([n],0,0)|_=>([site o.dst],0,0))
    | []=>([],0,0))
   | .builtin .copy=>(match c.args.toList with
    |x::_=>(match s.eg g x with | .sl n _ _=>([n],0,0)|_=>([],0,0))
    | []=>([],0,0))
   | .builtin .clear=>(match c.args.toList with
    |x::_=>(match s.eg g x with | .e9 n _ _ _ _=>([n],0,0)|_=>([],0,0))
    | []=>([],0,0))
   | .builtin .delete=>(match c.args.toList with
    |x::_=>(match s.eg g x with | .mp n _=>([n],0,0)|_=>([],0,0))
    | []=>([],0,0))
   |_=>([],0,0)
  | .makeSlice .. | .makeMap ..=>([site o.dst],0,0)
  | .mapUpdate _ m _ x=>(match s.eg g m with | .mp n _=>n::aH (s.eg g x).cells |_=>[],0,0)
  | .insert _ m _ x=>(match s.eg g m with | .mp n _=>n::aH (s.eg g x).cells |_=>[],0,0)
  | .mapEntry _ m _=>(match s.eg g m with | .mp n _=>[site o.dst,n]|_=>[site o.dst],0,0)
  | .entryStore _ m _ x=>(match s.eg g m with | .mp n _=>n::aH (s.eg g x).cells |_=>[],0,0)
  | .range _ x=>(match s.eg g x with | .mp n _=>[site o.dst,n]|_=>[site o.dst],0,0)
  | .buildSlice _ _ parts=>(site o.dst::parts.toList.flatMap λx=>aH (s.eg g x.2).cells,0,0)
  |_=>([],0,0)
def iL:List P->List Nat
 | []=>[]
 |p::r=>match p.name with |some (n,_)=>n::iL r |none=>iL r
structure Info where
 pure:Bool
 ns:List Nat
 ws:List Nat×Nat×Nat
def aK(Q:Program)(ops:List Oper)(s:S)(o:Oper):Info:=
 match ay ops o with
 |none=>⟨false,[],[],0,0⟩
 |some g=>if Nat.ble (aj o) 1 then⟨true,if Nat.beq (aj o) 0 then [] else iL (o.op.operands.toList.map (s.eg g)),[],0,0⟩ else⟨false,[],writes Q s o g⟩
def tq(ns:List Nat)(W:List Nat×Nat×Nat):Bool:=ns.all λn=> !dQ n W.1&& !(Nat.ble W.2.1 n&&Nat.blt n W.2.2)
def fp(x y:Info):Bool:=
 if x.pure then(if y.pure then true else tq x.ns y.ws) else(if y.pure then tq y.ns x.ws else false)
structure Step where
 info:Info
 Gw:List (Nat×En)
 Gx:List (Nat×En)
 look:Option TypeId
 Gy:Option (TypeId×Nat)
def r7(o:Oper):Option TypeId:=match o.op with | .lookup t _ _ false=>some t |_=>none
def v8(o:Oper):Option (TypeId×Nat):=match o.op with | .mapEntry t _ _=>some (t,site o.dst)|_=>none
def fD(Q:Program)(ops:List Oper)(s:S)(o:Oper)(s1:S):Step:=⟨aK Q ops s o,s.rg,s1.rg,r7 o,v8 o⟩
def leaves(x y:Step)(same:Prop->Prop)(q:Prop):Prop:=
 match y.Gy,x.look with
 |some (t,n),some t'=>cond (Nat.beq t t'&& !dQ n x.info.ns) q (same q)
 |_,_=>same q
def wa(W:List Nat×Nat×Nat)(n:Nat):Bool:=dQ n W.1 || (Nat.ble W.2.1 n&&Nat.blt n W.2.2)
def jX:List Nat->Step->Prop->Prop
 | [],_,q=>q
 |n::r,y,q=>cond (wa y.info.ws n) (lk y.Gx n=lk y.Gw n/\jX r y q) (jX r y q)
def dj(m:Nat)(M:List Nat)(i:Nat)(x:Step)(j:Nat)(y:Step)(q:Prop):Prop:=
 cond (Nat.testBit (M.getD j 0) i ||fp x.info y.info) q (cond x.info.pure (cond y.info.pure q (leaves x y (jX x.info.ns y) q)) (cond y.info.pure (leaves y x (jX y.info.ns x) q) (cond (Nat.beq j m) q False)))
def uo(f:Nat->Step->Prop->Prop):Nat->List Step->Prop->Prop
 |_,[],q=>q
 |i,x::r,q=>f i x (uo f (i+1) r q)
def kG(f:Nat->Step->Nat->Step->Prop->Prop):Nat->List Step->Prop->Prop
 |_,[],q=>q
 |i,x::r,q=>uo (f i x) (i+1) r (kG f (i+1) r q)
def hD(m:Nat)(M:List Nat)(l:List Step)(q:Prop):Prop:=kG (dj m M) 0 l q
def hI(Q:Program)(cf:CF)(ops:List Oper):List Oper->S->Option (S×List Step)
 | [],s=>some (s,[])
 |o::r,s=>match aC Q cf ops s o with
  |none=>none
  |some s1=>match hI Q cf ops r s1 with
   |some (s2,l)=>some (s2,fD Q ops s o s1::l)
   |none=>none
def yJ(ops:List Oper)(o:Oper):Bool:=
 match o.op,o.dst,o.guard with
 | .buildSlice ..,some d,none=>ops.any λp=>match p.op with
  | .call c=>(match c.callee,c.args.toList with | .builtin .append,[_,.tmp u]=>Nat.beq u d |_,_=>false)
  |_=>false
 |_,_,_=>false
def eK(ops:List Oper)(o:Oper):Oper:=if yJ ops o then {o with type:=4000000} else o
def bf(ops:List Oper):List Oper:=ops.map (eK ops)
def kH(ops:List Oper)(M:List Nat):Nat->List Oper->Option (Nat×TypeId×Nat)
 |_,[]=>none
 |j,o::r=>match ek o with
  |some (t,d)=>if dD (λi x=>Nat.ble j i ||Nat.ble (aj x) 1 ||Nat.testBit (M.getD j 0) i) 0 ops then kH ops M (j+1) r else some (j,t,d)
  |none=>kH ops M (j+1) r
def pd(ops:List Oper):Option (Nat×TypeId×Nat):=kH ops (masks ops []) 0 ops
def pe(ops:List Oper)(m:Nat):Bool:=dD (um (masks ops [])) 0 ops&&cO (hB m ops (masks ops [])) 0 ops&&dD (vZ m ops (masks ops [])) 0 ops
def eL(ops:List Oper):Nat:=
 match bs ops with
 |0=>(match bs (bf ops) with
  |0=>(match pd ops with |some (m,_,_)=>if pe ops m then 6 else 0 |none=>0)
  |k+1=>k+4)
 |k+1=>k+1
open Classical in
noncomputable def dJ(Q:Program)(cf:CF)(ops:List Oper)(s:S):Option S:=
 match bs ops with
 |0=>none
 |1=>(match hI Q cf ops ops s with
  |some (s1,l)=>if hD 0 (masks ops []) l True then some s1 else none
  |none=>none)
 |_=>bA Q cf ops ops s
open Classical in
noncomputable def jY(Q:Program)(cf:CF)(ops:List Oper)(s:S):Option S:=
 match pd ops with
 |some (m,t,d)=>if pe ops m=true/\jj Q t=false/\lk s.tm d=none then(match hI Q cf ops ops s with
  |some (s1,l)=>if hD m (masks ops []) l True then some s1 else none
  |none=>none) else none
 |none=>none
noncomputable def dE(Q:Program)(cf:CF)(ops:List Oper)(s:S):Option S:=
 match bs ops with
 |0=>(match bs (bf ops) with
  |0=>jY Q cf ops s
  |_=>dJ Q cf (bf ops) s)
 |_=>dJ Q cf ops s
end Pi
