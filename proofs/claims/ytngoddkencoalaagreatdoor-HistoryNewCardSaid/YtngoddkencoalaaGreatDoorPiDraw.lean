/- The text PiDraw. -/
import Derived.Test.YtngoddkencoalaaGreatDoorPiCode
namespace Pi
open Go
def aC(o:Oper):Nat:=
 match o.op with
 | .move _ | .pick .. | .unOp .. | .index .. | .field .. | .extract .. | .build ..=>0
 | .assign (.const (.slice none 0 0))=>2
 | .assign _=>0
 | .nilCheck _ | .binOp .. | .load .. | .fieldAddr .. | .indexAddr .. | .slice _ _ _ _ none=>1
 | .convert ..=>1
 | .alloc _ | .box .. | .makeMap ..=>2
 | .lookup .. | .entry _=>1
 | .buildSlice ..=>if Nat.beq o.type 4000000 then 0 else 3
 | .call c=>match c.callee with
  | .builtin .len=>1
  | .builtin .min | .builtin .max=>0
  |_=>3
 |_=>3
def OS:Operand->List Nat
 | .tmp t=>[t]
 |_=>[]
def looks(ops:List Oper)(o:Oper):List Nat:=
 o.op.operands.toList.flatMap OS++
 (match o.guard with
  |some (g,_)=>(match ops[g]? with |some oj=>(match oj.dst with |some t=>[t]|none=>[])|none=>[])
  |none=>[])
def AE(o:Oper)(l:List Nat):Bool:=match o.dst with |some d=>gS d l |none=>false
def B2(x y:Oper):Bool:=match x.dst,y.dst with |some d,some e=>Nat.beq d e |_,_=>false
def kJ(acc:List Nat):List Edge->Nat
 | []=>0
 |e::es=>if Region.binds .any e then(Nat.lor (Nat.lor (Nat.shiftLeft 1 e.on) (acc.getD e.on 0)) (kJ acc es)) else kJ acc es
def masks:List Oper->List Nat->List Nat
 | [],acc=>acc
 |o::r,acc=>masks r (acc++[kJ acc o.after.toList])
def jb{α:Type}(f:Nat->α->Bool):Nat->List α->Bool
 |_,[]=>true
 |i,x::r=>f i x&&jb f (i+1) r
def gF{α:Type}(f:Nat->α->Nat->α->Bool):Nat->List α->Bool
 |_,[]=>true
 |i,x::r=>jb (f i x) (i+1) r&&gF f (i+1) r
def LX(M:List Nat)(i:Nat)(o:Oper):Bool:=
 Nat.beq (M.getD i 0) (kJ M o.after.toList)&&o.after.toList.all (λe=> !Region.binds .any e ||Nat.blt e.on i)&&
 (match o.guard with |none=>true |some (j,_)=>Nat.testBit (M.getD i 0) j)
def J6(ops:List Oper)(M:List Nat)(i:Nat)(x:Oper)(j:Nat)(y:Oper):Bool:=
 !B2 x y&&(Nat.testBit (M.getD j 0) i || (!AE x (looks ops y)&& !AE y (looks ops x)&&(Nat.ble (aC x) 1 ||Nat.ble (aC y) 1)))
def oZ(m:Nat)(ops:List Oper)(M:List Nat)(i:Nat)(x:Oper)(j:Nat)(y:Oper):Bool:=
 !B2 x y&&(Nat.testBit (M.getD j 0) i || (!AE x (looks ops y)&& !AE y (looks ops x)&&(Nat.ble (aC x) 1 ||Nat.ble (aC y) 1 ||Nat.beq j m)))
theorem AF{m:Nat}{ops:List Oper}{M:List Nat}{i j:Nat}{x y:Oper}(h:J6 ops M i x j y=true):oZ m ops M i x j y=true:=by simp only[J6,oZ,zab,zba] at h⊢;exact⟨h.1,h.2.imp id λh=>⟨h.1,.inl h.2⟩⟩
def OT(m:Nat)(ops:List Oper)(M:List Nat)(i:Nat)(_:Oper):Bool:=
 !Nat.testBit (M.getD i 0) m ||jb (λx px=>Nat.ble m x ||Nat.ble (aC px) 1 ||Nat.testBit (M.getD i 0) x) 0 ops
def j8(o:Oper):Option (TypeId×Nat):=match o.op,o.guard,o.dst with | .alloc t,none,some d=>some (t,d)|_,_,_=>none
def OU(x y:Oper):Bool:=Nat.beq (aC x) 0 ||Nat.beq (aC y) 0 || (Nat.ble (aC x) 1&&Nat.ble (aC y) 1)
def dh(ops:List Oper):Nat:=
 if jb (LX (masks ops [])) 0 ops&&gF (J6 ops (masks ops [])) 0 ops then
  (if gF (λi x j y=>Nat.testBit ((masks ops []).getD j 0) i ||OU x y) 0 ops then 2 else 1) else 0
def bG:List P->List Nat
 | []=>[]
 | .sl n _ _::r=>n::bG r
 | .lG n _ _ _ _::r=>n::bG r
 |_::r=>bG r
def writes(Q:Program)(s:S)(o:Oper)(g:Option (Nat×Bool)):List Nat×Nat×Nat:=
 match c7 Q o with
 |some _=>([site o.dst],0,0)
 |none=>match o.op with
  | .alloc t=>match ey Q t with |some z=>([site o.dst],site o.dst*1000,site o.dst*1000+z.cells.length)|none=>([],0,0)
  | .box _ x=>([site o.dst],site o.dst*1000,site o.dst*1000+(s.eg g x).cells.length)
  | .store _ ad x=>match s.eg g ad with
   | .ref n _ off=>(n::bG (s.eg g x).cells,2000000+n*1000+off,2000000+n*1000+off+1)
   | .dz n _ _ _ _=>(n::bG (s.eg g x).cells,0,0)
   |_=>([],0,0)
  | .call c=>match c.callee with
   | .value f=>(match s.eg g f with
    | .fn ku cI=>(match cO Q s ku (c.args.toList.map (s.eg g)++cI) with
     |some (s1,qs)=>(bG ((c.args.toList.map (s.eg g)++cI).flatMap P.cells)++reach s1.rg 1000 qs [],site o.dst*1000,site o.dst*1000+1000)
     |none=>([],0,0))
    |_=>([],0,0))
   | .builtin .append=>(match c.args.toList with
    |x::_=>(match s.eg g x with | .sl n _ _=>([n],0,0)|_=>([site o.dst],0,0))
    | []=>([],0,0))
   | .builtin .copy=>(match c.args.toList with
    |x::_=>(match s.eg g x with | .sl n _ _=>([n],0,0)|_=>([],0,0))
    | []=>([],0,0))
   | .builtin .clear=>(match c.args.toList with
    |x::_=>(match s.eg g x with | .lG n _ _ _ _=>([n],0,0)|_=>([],0,0))
    | []=>([],0,0))
   |_=>([],0,0)
  | .makeSlice .. | .makeMap ..=>([site o.dst],0,0)
  | .mapUpdate _ m _ x=>(match s.eg g m with | .mp n _=>n::bG (s.eg g x).cells |_=>[],0,0)
  | .insert _ m _ x=>(match s.eg g m with | .mp n _=>n::bG (s.eg g x).cells |_=>[],0,0)
  | .mapEntry _ m _=>(match s.eg g m with | .mp n _=>[site o.dst,n]|_=>[site o.dst],0,0)
  | .entryStore _ m _ x=>(match s.eg g m with | .mp n _=>n::bG (s.eg g x).cells |_=>[],0,0)
  | .range _ x=>(match s.eg g x with | .mp n _=>[site o.dst,n]|_=>[site o.dst],0,0)
  | .buildSlice _ _ parts=>(site o.dst::parts.toList.flatMap λx=>bG (s.eg g x.2).cells,0,0)
  |_=>([],0,0)
def pY:List P->List Nat
 | []=>[]
 |p::r=>match p.name with |some (n,_)=>n::pY r |none=>pY r
structure Info where
 pure:Bool
 ns:List Nat
 ws:List Nat×Nat×Nat
def bL(Q:Program)(ops:List Oper)(s:S)(o:Oper):Info:=
 match bp ops o with
 |none=>⟨false,[],[],0,0⟩
 |some g=>if Nat.ble (aC o) 1 then⟨true,if Nat.beq (aC o) 0 then [] else pY (o.op.operands.toList.map (s.eg g)),[],0,0⟩ else⟨false,[],writes Q s o g⟩
def J7(ns:List Nat)(W:List Nat×Nat×Nat):Bool:=ns.all λn=> !gS n W.1&& !(Nat.ble W.2.1 n&&Nat.blt n W.2.2)
def ma(x y:Info):Bool:=
 if x.pure then(if y.pure then true else J7 x.ns y.ws) else(if y.pure then J7 y.ns x.ws else false)
structure Step where
 info:Info
 bef:List (Nat×En)
 aft:List (Nat×En)
 look:Option TypeId
 ent:Option (TypeId×Nat)
def HI(o:Oper):Option TypeId:=match o.op with | .lookup t _ _ false=>some t |_=>none
def OV(o:Oper):Option (TypeId×Nat):=match o.op with | .mapEntry t _ _=>some (t,site o.dst)|_=>none
def mE(Q:Program)(ops:List Oper)(s:S)(o:Oper)(s1:S):Step:=⟨bL Q ops s o,s.rg,s1.rg,HI o,OV o⟩
def leaves(x y:Step)(same:Prop->Prop)(q:Prop):Prop:=
 match y.ent,x.look with
 |some (t,n),some t'=>cond (Nat.beq t t'&& !gS n x.info.ns) q (same q)
 |_,_=>same q
def OW(W:List Nat×Nat×Nat)(n:Nat):Bool:=gS n W.1 || (Nat.ble W.2.1 n&&Nat.blt n W.2.2)
def sr:List Nat->Step->Prop->Prop
 | [],_,q=>q
 |n::r,y,q=>cond (OW y.info.ws n) (lk y.aft n=lk y.bef n/\sr r y q) (sr r y q)
def iA(m:Nat)(M:List Nat)(i:Nat)(x:Step)(j:Nat)(y:Step)(q:Prop):Prop:=
 cond (Nat.testBit (M.getD j 0) i ||ma x.info y.info) q (cond x.info.pure (cond y.info.pure q (leaves x y (sr x.info.ns y) q)) (cond y.info.pure (leaves y x (sr y.info.ns x) q) (cond (Nat.beq j m) q False)))
def LZ(f:Nat->Step->Prop->Prop):Nat->List Step->Prop->Prop
 |_,[],q=>q
 |i,x::r,q=>f i x (LZ f (i+1) r q)
def tO(f:Nat->Step->Nat->Step->Prop->Prop):Nat->List Step->Prop->Prop
 |_,[],q=>q
 |i,x::r,q=>LZ (f i x) (i+1) r (tO f (i+1) r q)
def o4(m:Nat)(M:List Nat)(l:List Step)(q:Prop):Prop:=tO (iA m M) 0 l q
def o5(Q:Program)(cf:CF)(ops:List Oper):List Oper->S->Option (S×List Step)
 | [],s=>some (s,[])
 |o::r,s=>match bu Q cf ops s o with
  |none=>none
  |some s1=>match o5 Q cf ops r s1 with
   |some (s2,l)=>some (s2,mE Q ops s o s1::l)
   |none=>none
def VW(ops:List Oper)(o:Oper):Bool:=
 match o.op,o.dst,o.guard with
 | .buildSlice ..,some d,none=>ops.any λp=>match p.op with
  | .call c=>(match c.callee,c.args.toList with | .builtin .append,[_,.tmp u]=>Nat.beq u d |_,_=>false)
  |_=>false
 |_,_,_=>false
def kK(ops:List Oper)(o:Oper):Oper:=if VW ops o then {o with type:=4000000} else o
def cT(ops:List Oper):List Oper:=ops.map (kK ops)
def tP(ops:List Oper)(M:List Nat):Nat->List Oper->Option (Nat×TypeId×Nat)
 |_,[]=>none
 |j,o::r=>match j8 o with
  |some (t,d)=>if jb (λi x=>Nat.ble j i ||Nat.ble (aC x) 1 ||Nat.testBit (M.getD j 0) i) 0 ops then tP ops M (j+1) r else some (j,t,d)
  |none=>tP ops M (j+1) r
def B3(ops:List Oper):Option (Nat×TypeId×Nat):=tP ops (masks ops []) 0 ops
def B4(ops:List Oper)(m:Nat):Bool:=jb (LX (masks ops [])) 0 ops&&gF (oZ m ops (masks ops [])) 0 ops&&jb (OT m ops (masks ops [])) 0 ops
def kL(ops:List Oper):Nat:=
 match dh ops with
 |0=>(match dh (cT ops) with
  |0=>(match B3 ops with |some (m,_,_)=>if B4 ops m then 6 else 0 |none=>0)
  |k+1=>k+4)
 |k+1=>k+1
open Classical in
noncomputable def jh(Q:Program)(cf:CF)(ops:List Oper)(s:S):Option S:=
 match dh ops with
 |0=>none
 |1=>(match o5 Q cf ops ops s with
  |some (s1,l)=>if o4 0 (masks ops []) l True then some s1 else none
  |none=>none)
 |_=>dx Q cf ops ops s
open Classical in
noncomputable def su(Q:Program)(cf:CF)(ops:List Oper)(s:S):Option S:=
 match B3 ops with
 |some (m,t,d)=>if B4 ops m=true/\qN Q t=false/\lk s.tm d=none then(match o5 Q cf ops ops s with
  |some (s1,l)=>if o4 m (masks ops []) l True then some s1 else none
  |none=>none) else none
 |none=>none
noncomputable def jc(Q:Program)(cf:CF)(ops:List Oper)(s:S):Option S:=
 match dh ops with
 |0=>(match dh (cT ops) with
  |0=>su Q cf ops s
  |_=>jh Q cf (cT ops) s)
 |_=>jh Q cf ops s
end Pi
