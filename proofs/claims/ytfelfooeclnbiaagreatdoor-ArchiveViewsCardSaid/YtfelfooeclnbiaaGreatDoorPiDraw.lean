/- The text PiDraw. -/
import Derived.Test.YtfelfooeclnbiaaGreatDoorPiCode
namespace Pi
open Go
def aA(o:Oper):Nat:=
 match o.op with
 | .move _ | .pick .. | .unOp .. | .index .. | .field .. | .extract .. | .build ..=>0
 | .assign (.const (.slice none 0 0))=>2
 | .assign _=>0
 | .nilCheck _ | .binOp .. | .load .. | .fieldAddr .. | .indexAddr .. | .slice _ _ _ _ none=>1
 | .convert ..=>1
 | .alloc _ | .box .. | .makeMap ..=>2
 | .lookup .. | .entry _=>1
 | .buildSlice ..=>if Nat.beq o.type 4000000 then 0 else 3
 | .call c=>match c.callee with
  | .builtin .len=>1
  | .builtin .min | .builtin .max=>0
  |_=>3
 |_=>3
def O0:Operand->List Nat
 | .tmp t=>[t]
 |_=>[]
def looks(ops:List Oper)(o:Oper):List Nat:=
 o.op.operands.toList.flatMap O0++
 (match o.guard with
  |some (g,_)=>(match ops[g]? with |some oj=>(match oj.dst with |some t=>[t]|none=>[])|none=>[])
  |none=>[])
def As(o:Oper)(l:List Nat):Bool:=match o.dst with |some d=>jE d l |none=>false
def BZ(x y:Oper):Bool:=match x.dst,y.dst with |some d,some e=>Nat.beq d e |_,_=>false
def kG(acc:List Nat):List Edge->Nat
 | []=>0
 |e::es=>if Region.binds .any e then(Nat.lor (Nat.lor (Nat.shiftLeft 1 e.on) (acc.getD e.on 0)) (kG acc es)) else kG acc es
def masks:List Oper->List Nat->List Nat
 | [],acc=>acc
 |o::r,acc=>masks r (acc++[kG acc o.after.toList])
def iX{α:Type}(f:Nat->α->Bool):Nat->List α->Bool
 |_,[]=>true
 |i,x::r=>f i x&&iX f (i+1) r
def gI{α:Type}(f:Nat->α->Nat->α->Bool):Nat->List α->Bool
 |_,[]=>true
 |i,x::r=>iX (f i x) (i+1) r&&gI f (i+1) r
def L1(M:List Nat)(i:Nat)(o:Oper):Bool:=
 Nat.beq (M.getD i 0) (kG M o.after.toList)&&o.after.toList.all (λe=> !Region.binds .any e ||Nat.blt e.on i)&&
 (match o.guard with |none=>true |some (j,_)=>Nat.testBit (M.getD i 0) j)
def J8(ops:List Oper)(M:List Nat)(i:Nat)(x:Oper)(j:Nat)(y:Oper):Bool:=
 !BZ x y&&(Nat.testBit (M.getD j 0) i || (!As x (looks ops y)&& !As y (looks ops x)&&(Nat.ble (aA x) 1 ||Nat.ble (aA y) 1)))
def o9(m:Nat)(ops:List Oper)(M:List Nat)(i:Nat)(x:Oper)(j:Nat)(y:Oper):Bool:=
 !BZ x y&&(Nat.testBit (M.getD j 0) i || (!As x (looks ops y)&& !As y (looks ops x)&&(Nat.ble (aA x) 1 ||Nat.ble (aA y) 1 ||Nat.beq j m)))
theorem Au{m:Nat}{ops:List Oper}{M:List Nat}{i j:Nat}{x y:Oper}(h:J8 ops M i x j y=true):o9 m ops M i x j y=true:=by simp only[J8,o9,zad,za1] at h⊢;exact⟨h.1,h.2.imp id λh=>⟨h.1,.inl h.2⟩⟩
def O1(m:Nat)(ops:List Oper)(M:List Nat)(i:Nat)(_:Oper):Bool:=
 !Nat.testBit (M.getD i 0) m ||iX (λx px=>Nat.ble m x ||Nat.ble (aA px) 1 ||Nat.testBit (M.getD i 0) x) 0 ops
def jW(o:Oper):Option (TypeId×Nat):=match o.op,o.guard,o.dst with | .alloc t,none,some d=>some (t,d)|_,_,_=>none
def O2(x y:Oper):Bool:=Nat.beq (aA x) 0 ||Nat.beq (aA y) 0 || (Nat.ble (aA x) 1&&Nat.ble (aA y) 1)
def cZ(ops:List Oper):Nat:=
 if iX (L1 (masks ops [])) 0 ops&&gI (J8 ops (masks ops [])) 0 ops then
  (if gI (λi x j y=>Nat.testBit ((masks ops []).getD j 0) i ||O2 x y) 0 ops then 2 else 1) else 0
def bu:List P->List Nat
 | []=>[]
 | .sl n _ _::r=>n::bu r
 | .lu n _ _ _ _::r=>n::bu r
 |_::r=>bu r
def writes(Q:Program)(s:S)(o:Oper)(g:Option (Nat×Bool)):List Nat×Nat×Nat:=
 match cS Q o with
 |some _=>([site o.dst],0,0)
 |none=>match o.op with
  | .alloc t=>match dX Q t with |some z=>([site o.dst],site o.dst*1000,site o.dst*1000+z.cells.length)|none=>([],0,0)
  | .box _ x=>([site o.dst],site o.dst*1000,site o.dst*1000+(s.eg g x).cells.length)
  | .store _ ad x=>match s.eg g ad with
   | .ref n _ off=>(n::bu (s.eg g x).cells,2000000+n*1000+off,2000000+n*1000+off+1)
   | .dj n _ _ _ _=>(n::bu (s.eg g x).cells,0,0)
   |_=>([],0,0)
  | .call c=>match c.callee with
   | .value f=>(match s.eg g f with
    | .fn kF cF=>(match cL Q s kF (c.args.toList.map (s.eg g)++cF) with
     |some (s1,qs)=>(bu ((c.args.toList.map (s.eg g)++cF).flatMap P.cells)++reach s1.rg 1000 qs [],site o.dst*1000,site o.dst*1000+1000)
     |none=>([],0,0))
    |_=>([],0,0))
   | .builtin .append=>(match c.args.toList with
    |x::_=>(match s.eg g x with | .sl n _ _=>([n],0,0)|_=>([site o.dst],0,0))
    | []=>([],0,0))
   | .builtin .copy=>(match c.args.toList with
    |x::_=>(match s.eg g x with | .sl n _ _=>([n],0,0)|_=>([],0,0))
    | []=>([],0,0))
   | .builtin .clear=>(match c.args.toList with
    |x::_=>(match s.eg g x with | .lu n _ _ _ _=>([n],0,0)|_=>([],0,0))
    | []=>([],0,0))
   |_=>([],0,0)
  | .makeSlice .. | .makeMap ..=>([site o.dst],0,0)
  | .mapUpdate _ m _ x=>(match s.eg g m with | .mp n _=>n::bu (s.eg g x).cells |_=>[],0,0)
  | .insert _ m _ x=>(match s.eg g m with | .mp n _=>n::bu (s.eg g x).cells |_=>[],0,0)
  | .mapEntry _ m _=>(match s.eg g m with | .mp n _=>[site o.dst,n]|_=>[site o.dst],0,0)
  | .entryStore _ m _ x=>(match s.eg g m with | .mp n _=>n::bu (s.eg g x).cells |_=>[],0,0)
  | .range _ x=>(match s.eg g x with | .mp n _=>[site o.dst,n]|_=>[site o.dst],0,0)
  | .buildSlice _ _ parts=>(site o.dst::parts.toList.flatMap λx=>bu (s.eg g x.2).cells,0,0)
  |_=>([],0,0)
def pZ:List P->List Nat
 | []=>[]
 |p::r=>match p.name with |some (n,_)=>n::pZ r |none=>pZ r
structure Info where
 pure:Bool
 ns:List Nat
 ws:List Nat×Nat×Nat
def bA(Q:Program)(ops:List Oper)(s:S)(o:Oper):Info:=
 match bf ops o with
 |none=>⟨false,[],[],0,0⟩
 |some g=>if Nat.ble (aA o) 1 then⟨true,if Nat.beq (aA o) 0 then [] else pZ (o.op.operands.toList.map (s.eg g)),[],0,0⟩ else⟨false,[],writes Q s o g⟩
def J9(ns:List Nat)(W:List Nat×Nat×Nat):Bool:=ns.all λn=> !jE n W.1&& !(Nat.ble W.2.1 n&&Nat.blt n W.2.2)
def lY(x y:Info):Bool:=
 if x.pure then(if y.pure then true else J9 x.ns y.ws) else(if y.pure then J9 y.ns x.ws else false)
structure Step where
 info:Info
 bef:List (Nat×En)
 aft:List (Nat×En)
 look:Option TypeId
 ent:Option (TypeId×Nat)
def HR(o:Oper):Option TypeId:=match o.op with | .lookup t _ _ false=>some t |_=>none
def O3(o:Oper):Option (TypeId×Nat):=match o.op with | .mapEntry t _ _=>some (t,site o.dst)|_=>none
def mx(Q:Program)(ops:List Oper)(s:S)(o:Oper)(s1:S):Step:=⟨bA Q ops s o,s.rg,s1.rg,HR o,O3 o⟩
def leaves(x y:Step)(same:Prop->Prop)(q:Prop):Prop:=
 match y.ent,x.look with
 |some (t,n),some t'=>cond (Nat.beq t t'&& !jE n x.info.ns) q (same q)
 |_,_=>same q
def O4(W:List Nat×Nat×Nat)(n:Nat):Bool:=jE n W.1 || (Nat.ble W.2.1 n&&Nat.blt n W.2.2)
def sk:List Nat->Step->Prop->Prop
 | [],_,q=>q
 |n::r,y,q=>cond (O4 y.info.ws n) (lk y.aft n=lk y.bef n/\sk r y q) (sk r y q)
def il(m:Nat)(M:List Nat)(i:Nat)(x:Step)(j:Nat)(y:Step)(q:Prop):Prop:=
 cond (Nat.testBit (M.getD j 0) i ||lY x.info y.info) q (cond x.info.pure (cond y.info.pure q (leaves x y (sk x.info.ns y) q)) (cond y.info.pure (leaves y x (sk y.info.ns x) q) (cond (Nat.beq j m) q False)))
def L2(f:Nat->Step->Prop->Prop):Nat->List Step->Prop->Prop
 |_,[],q=>q
 |i,x::r,q=>f i x (L2 f (i+1) r q)
def ua(f:Nat->Step->Nat->Step->Prop->Prop):Nat->List Step->Prop->Prop
 |_,[],q=>q
 |i,x::r,q=>L2 (f i x) (i+1) r (ua f (i+1) r q)
def pb(m:Nat)(M:List Nat)(l:List Step)(q:Prop):Prop:=ua (il m M) 0 l q
def pc(Q:Program)(cf:CF)(ops:List Oper):List Oper->S->Option (S×List Step)
 | [],s=>some (s,[])
 |o::r,s=>match bj Q cf ops s o with
  |none=>none
  |some s1=>match pc Q cf ops r s1 with
   |some (s2,l)=>some (s2,mx Q ops s o s1::l)
   |none=>none
def VY(ops:List Oper)(o:Oper):Bool:=
 match o.op,o.dst,o.guard with
 | .buildSlice ..,some d,none=>ops.any λp=>match p.op with
  | .call c=>(match c.callee,c.args.toList with | .builtin .append,[_,.tmp u]=>Nat.beq u d |_,_=>false)
  |_=>false
 |_,_,_=>false
def kH(ops:List Oper)(o:Oper):Oper:=if VY ops o then {o with type:=4000000} else o
def cP(ops:List Oper):List Oper:=ops.map (kH ops)
def uc(ops:List Oper)(M:List Nat):Nat->List Oper->Option (Nat×TypeId×Nat)
 |_,[]=>none
 |j,o::r=>match jW o with
  |some (t,d)=>if iX (λi x=>Nat.ble j i ||Nat.ble (aA x) 1 ||Nat.testBit (M.getD j 0) i) 0 ops then uc ops M (j+1) r else some (j,t,d)
  |none=>uc ops M (j+1) r
def B0(ops:List Oper):Option (Nat×TypeId×Nat):=uc ops (masks ops []) 0 ops
def B1(ops:List Oper)(m:Nat):Bool:=iX (L1 (masks ops [])) 0 ops&&gI (o9 m ops (masks ops [])) 0 ops&&iX (O1 m ops (masks ops [])) 0 ops
def kI(ops:List Oper):Nat:=
 match cZ ops with
 |0=>(match cZ (cP ops) with
  |0=>(match B0 ops with |some (m,_,_)=>if B1 ops m then 6 else 0 |none=>0)
  |k+1=>k+4)
 |k+1=>k+1
open Classical in
noncomputable def jh(Q:Program)(cf:CF)(ops:List Oper)(s:S):Option S:=
 match cZ ops with
 |0=>none
 |1=>(match pc Q cf ops ops s with
  |some (s1,l)=>if pb 0 (masks ops []) l True then some s1 else none
  |none=>none)
 |_=>de Q cf ops ops s
open Classical in
noncomputable def sq(Q:Program)(cf:CF)(ops:List Oper)(s:S):Option S:=
 match B0 ops with
 |some (m,t,d)=>if B1 ops m=true/\qF Q t=false/\lk s.tm d=none then(match pc Q cf ops ops s with
  |some (s1,l)=>if pb m (masks ops []) l True then some s1 else none
  |none=>none) else none
 |none=>none
noncomputable def iY(Q:Program)(cf:CF)(ops:List Oper)(s:S):Option S:=
 match cZ ops with
 |0=>(match cZ (cP ops) with
  |0=>sq Q cf ops s
  |_=>jh Q cf (cP ops) s)
 |_=>jh Q cf ops s
end Pi
