/- The text PiDraw. -/
import Derived.Test.YtfelfooeclnbiaaPiCode
namespace Pi
open Go
def ak(o:Oper):Nat:=
 match o.op with
 | .move _ | .pick .. | .unOp .. | .index .. | .field .. | .extract .. | .build ..=>0
 | .assign (.const (.slice none 0 0))=>2
 | .assign _=>0
 | .nilCheck _ | .binOp .. | .load .. | .fieldAddr .. | .indexAddr .. | .slice _ _ _ _ none=>1
 | .convert ..=>1
 | .alloc _ | .box .. | .makeMap ..=>2
 | .lookup .. | .entry _=>1
 | .buildSlice ..=>if Nat.beq o.type 4000000 then 0 else 3
 | .call c=>match c.callee with
  | .builtin .len=>1
  | .builtin .min | .builtin .max=>0
  |_=>3
 |_=>3
def vX:Operand->List Nat
 | .tmp t=>[t]
 |_=>[]
def looks(ops:List Oper)(o:Oper):List Nat:=
 o.op.operands.toList.flatMap vX++
 (match o.guard with
  |some (g,_)=>(match ops[g]? with |some oj=>(match oj.dst with |some t=>[t]|none=>[])|none=>[])
  |none=>[])
def n7(o:Oper)(l:List Nat):Bool:=match o.dst with |some d=>dR d l |none=>false
def o0(x y:Oper):Bool:=match x.dst,y.dst with |some d,some e=>Nat.beq d e |_,_=>false
def eK(acc:List Nat):List Edge->Nat
 | []=>0
 |e::es=>if Region.binds .any e then(Nat.lor (Nat.lor (Nat.shiftLeft 1 e.on) (acc.getD e.on 0)) (eK acc es)) else eK acc es
def masks:List Oper->List Nat->List Nat
 | [],acc=>acc
 |o::r,acc=>masks r (acc++[eK acc o.after.toList])
def dG{α:Type}(f:Nat->α->Bool):Nat->List α->Bool
 |_,[]=>true
 |i,x::r=>f i x&&dG f (i+1) r
def cS{α:Type}(f:Nat->α->Nat->α->Bool):Nat->List α->Bool
 |_,[]=>true
 |i,x::r=>dG (f i x) (i+1) r&&cS f (i+1) r
def um(M:List Nat)(i:Nat)(o:Oper):Bool:=
 Nat.beq (M.getD i 0) (eK M o.after.toList)&&o.after.toList.all (λe=> !Region.binds .any e ||Nat.blt e.on i)&&
 (match o.guard with |none=>true |some (j,_)=>Nat.testBit (M.getD i 0) j)
def s9(ops:List Oper)(M:List Nat)(i:Nat)(x:Oper)(j:Nat)(y:Oper):Bool:=
 !o0 x y&&(Nat.testBit (M.getD j 0) i || (!n7 x (looks ops y)&& !n7 y (looks ops x)&&(Nat.ble (ak x) 1 ||Nat.ble (ak y) 1)))
def gT(m:Nat)(ops:List Oper)(M:List Nat)(i:Nat)(x:Oper)(j:Nat)(y:Oper):Bool:=
 !o0 x y&&(Nat.testBit (M.getD j 0) i || (!n7 x (looks ops y)&& !n7 y (looks ops x)&&(Nat.ble (ak x) 1 ||Nat.ble (ak y) 1 ||Nat.beq j m)))
theorem n8{m:Nat}{ops:List Oper}{M:List Nat}{i j:Nat}{x y:Oper}(h:s9 ops M i x j y=true):gT m ops M i x j y=true:=by simp only[s9,gT,zac,zbu] at h⊢;exact⟨h.1,h.2.imp id λh=>⟨h.1,.inl h.2⟩⟩
def vY(m:Nat)(ops:List Oper)(M:List Nat)(i:Nat)(_:Oper):Bool:=
 !Nat.testBit (M.getD i 0) m ||dG (λx px=>Nat.ble m x ||Nat.ble (ak px) 1 ||Nat.testBit (M.getD i 0) x) 0 ops
def ec(o:Oper):Option (TypeId×Nat):=match o.op,o.guard,o.dst with | .alloc t,none,some d=>some (t,d)|_,_,_=>none
def vZ(x y:Oper):Bool:=Nat.beq (ak x) 0 ||Nat.beq (ak y) 0 || (Nat.ble (ak x) 1&&Nat.ble (ak y) 1)
def bw(ops:List Oper):Nat:=
 if dG (um (masks ops [])) 0 ops&&cS (s9 ops (masks ops [])) 0 ops then
  (if cS (λi x j y=>Nat.testBit ((masks ops []).getD j 0) i ||vZ x y) 0 ops then 2 else 1) else 0
def aI:List P->List Nat
 | []=>[]
 | .sl n _ _::r=>n::aI r
 | .eZ n _ _ _ _::r=>n::aI r
 |_::r=>aI r
def writes(Q:Program)(s:S)(o:Oper)(g:Option (Nat×Bool)):List Nat×Nat×Nat:=
 match bm Q o with
 |some _=>([site o.dst],0,0)
 |none=>match o.op with
  | .alloc t=>match bV Q t with |some z=>([site o.dst],site o.dst*1000,site o.dst*1000+z.cells.length)|none=>([],0,0)
  | .box _ x=>([site o.dst],site o.dst*1000,site o.dst*1000+(s.eg g x).cells.length)
  | .store _ ad x=>match s.eg g ad with
   | .ref n _ off=>(n::aI (s.eg g x).cells,2000000+n*1000+off,2000000+n*1000+off+1)
   | .bG n _ _ _ _=>(n::aI (s.eg g x).cells,0,0)
   |_=>([],0,0)
  | .call c=>match c.callee with
   | .value f=>(match s.eg g f with
    | .fn gS cn=>(match br Q s gS (c.args.toList.map (s.eg g)++cn) with
     |some (s1,qs)=>(aI ((c.args.toList.map (s.eg g)++cn).flatMap P.cells)++reach s1.rg 1000 qs [],site o.dst*1000,site o.dst*1000+1000)
     |none=>([],0,0))
    |_=>([],0,0))
   | .builtin .append=>(match c.args.toList with
    |x::_=>(match s.eg g x with | .sl n _ _=>([n],0,0)|_=>([site o.dst],0,0))
    | []=>([],0,0))
   | .builtin .copy=>(match c.args.toList with
    |x::_=>(match s.eg g x with | .sl n _ _=>([n],0,0)|_=>([],0,0))
    | []=>([],0,0))
   | .builtin .clear=>(match c.args.toList with
    |x::_=>(match s.eg g x with | .eZ n _ _ _ _=>([n],0,0)|_=>([],0,0))
    | []=>([],0,0))
   | .builtin .delete=>(match c.args.toList with
    |x::_=>(match s.eg g x with | .mp n _=>([n],0,0)|_=>([],0,0))
    | []=>([],0,0))
   |_=>([],0,0)
  | .makeSlice .. | .makeMap ..=>([site o.dst],0,0)
  | .mapUpdate _ m _ x=>(match s.eg g m with | .mp n _=>n::aI (s.eg g x).cells |_=>[],0,0)
  | .insert _ m _ x=>(match s.eg g m with | .mp n _=>n::aI (s.eg g x).cells |_=>[],0,0)
  | .mapEntry _ m _=>(match s.eg g m with | .mp n _=>[site o.dst,n]|_=>[site o.dst],0,0)
  | .entryStore _ m _ x=>(match s.eg g m with | .mp n _=>n::aI (s.eg g x).cells |_=>[],0,0)
  | .range _ x=>(match s.eg g x with | .mp n _=>[site o.dst,n]|_=>[site o.dst],0,0)
  | .buildSlice _ _ parts=>(site o.dst::parts.toList.flatMap λx=>aI (s.eg g x.2).cells,0,0)
  |_=>([],0,0)
def iA:List P->List Nat
 | []=>[]
 |p::r=>match p.name with |some (n,_)=>n::iA r |none=>iA r
structure Info where
 pure:Bool
 ns:List Nat
 ws:List Nat×Nat×Nat
def aL(Q:Program)(ops:List Oper)(s:S)(o:Oper):Info:=
 match aA ops o with
 |none=>⟨false,[],[],0,0⟩
 |some g=>if Nat.ble (ak o) 1 then⟨true,if Nat.beq (ak o) 0 then [] else iA (o.op.operands.toList.map (s.eg g)),[],0,0⟩ else⟨false,[],writes Q s o g⟩
def ta(ns:List Nat)(W:List Nat×Nat×Nat):Bool:=ns.all λn=> !dR n W.1&& !(Nat.ble W.2.1 n&&Nat.blt n W.2.2)
def fk(x y:Info):Bool:=
 if x.pure then(if y.pure then true else ta x.ns y.ws) else(if y.pure then ta y.ns x.ws else false)
structure Step where
 info:Info
 FT:List (Nat×En)
 FU:List (Nat×En)
 look:Option TypeId
 FV:Option (TypeId×Nat)
def rS(o:Oper):Option TypeId:=match o.op with | .lookup t _ _ false=>some t |_=>none
def v7(o:Oper):Option (TypeId×Nat):=match o.op with | .mapEntry t _ _=>some (t,site o.dst)|_=>none
def fC(Q:Program)(ops:List Oper)(s:S)(o:Oper)(s1:S):Step:=⟨aL Q ops s o,s.rg,s1.rg,rS o,v7 o⟩
def leaves(x y:Step)(same:Prop->Prop)(q:Prop):Prop:=
 match y.FV,x.look with
 |some (t,n),some t'=>cond (Nat.beq t t'&& !dR n x.info.ns) q (same q)
 |_,_=>same q
def v8(W:List Nat×Nat×Nat)(n:Nat):Bool:=dR n W.1 || (Nat.ble W.2.1 n&&Nat.blt n W.2.2)
def jO:List Nat->Step->Prop->Prop
 | [],_,q=>q
 |n::r,y,q=>cond (v8 y.info.ws n) (lk y.FU n=lk y.FT n/\jO r y q) (jO r y q)
def dn(m:Nat)(M:List Nat)(i:Nat)(x:Step)(j:Nat)(y:Step)(q:Prop):Prop:=
 cond (Nat.testBit (M.getD j 0) i ||fk x.info y.info) q (cond x.info.pure (cond y.info.pure q (leaves x y (jO x.info.ns y) q)) (cond y.info.pure (leaves y x (jO y.info.ns x) q) (cond (Nat.beq j m) q False)))
def uo(f:Nat->Step->Prop->Prop):Nat->List Step->Prop->Prop
 |_,[],q=>q
 |i,x::r,q=>f i x (uo f (i+1) r q)
def ku(f:Nat->Step->Nat->Step->Prop->Prop):Nat->List Step->Prop->Prop
 |_,[],q=>q
 |i,x::r,q=>uo (f i x) (i+1) r (ku f (i+1) r q)
def gU(m:Nat)(M:List Nat)(l:List Step)(q:Prop):Prop:=ku (dn m M) 0 l q
def gV(Q:Program)(cf:CF)(ops:List Oper):List Oper->S->Option (S×List Step)
 | [],s=>some (s,[])
 |o::r,s=>match aE Q cf ops s o with
  |none=>none
  |some s1=>match gV Q cf ops r s1 with
   |some (s2,l)=>some (s2,fC Q ops s o s1::l)
   |none=>none
def yC(ops:List Oper)(o:Oper):Bool:=
 match o.op,o.dst,o.guard with
 | .buildSlice ..,some d,none=>ops.any λp=>match p.op with
  | .call c=>(match c.callee,c.args.toList with | .builtin .append,[_,.tmp u]=>Nat.beq u d |_,_=>false)
  |_=>false
 |_,_,_=>false
def eL(ops:List Oper)(o:Oper):Oper:=if yC ops o then {o with type:=4000000} else o
def bg(ops:List Oper):List Oper:=ops.map (eL ops)
def kx(ops:List Oper)(M:List Nat):Nat->List Oper->Option (Nat×TypeId×Nat)
 |_,[]=>none
 |j,o::r=>match ec o with
  |some (t,d)=>if dG (λi x=>Nat.ble j i ||Nat.ble (ak x) 1 ||Nat.testBit (M.getD j 0) i) 0 ops then kx ops M (j+1) r else some (j,t,d)
  |none=>kx ops M (j+1) r
def o4(ops:List Oper):Option (Nat×TypeId×Nat):=kx ops (masks ops []) 0 ops
def o5(ops:List Oper)(m:Nat):Bool:=dG (um (masks ops [])) 0 ops&&cS (gT m ops (masks ops [])) 0 ops&&dG (vY m ops (masks ops [])) 0 ops
def eM(ops:List Oper):Nat:=
 match bw ops with
 |0=>(match bw (bg ops) with
  |0=>(match o4 ops with |some (m,_,_)=>if o5 ops m then 6 else 0 |none=>0)
  |k+1=>k+4)
 |k+1=>k+1
open Classical in
noncomputable def dM(Q:Program)(cf:CF)(ops:List Oper)(s:S):Option S:=
 match bw ops with
 |0=>none
 |1=>(match gV Q cf ops ops s with
  |some (s1,l)=>if gU 0 (masks ops []) l True then some s1 else none
  |none=>none)
 |_=>bC Q cf ops ops s
open Classical in
noncomputable def jP(Q:Program)(cf:CF)(ops:List Oper)(s:S):Option S:=
 match o4 ops with
 |some (m,t,d)=>if o5 ops m=true/\iZ Q t=false/\lk s.tm d=none then(match gV Q cf ops ops s with
  |some (s1,l)=>if gU m (masks ops []) l True then some s1 else none
  |none=>none) else none
 |none=>none
noncomputable def dH(Q:Program)(cf:CF)(ops:List Oper)(s:S):Option S:=
 match bw ops with
 |0=>(match bw (bg ops) with
  |0=>jP Q cf ops s
  |_=>dM Q cf (bg ops) s)
 |_=>dM Q cf ops s
end Pi
