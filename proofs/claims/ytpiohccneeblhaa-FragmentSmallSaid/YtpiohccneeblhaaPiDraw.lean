/- The text PiDraw. -/
import Derived.Test.YtpiohccneeblhaaPiCode
namespace Pi
open Go
def ar(o:Oper):Nat:=
 match o.op with
 | .move _ | .pick .. | .unOp .. | .index .. | .field .. | .extract .. | .build ..=>0
 | .assign (.const (.slice none 0 0))=>2
 | .assign _=>0
 | .nilCheck _ | .binOp .. | .load .. | .fieldAddr .. | .indexAddr .. | .slice _ _ _ _ none=>1
 | .convert ..=>1
 | .alloc _ | .box .. | .makeMap ..=>2
 | .lookup .. | .entry _=>1
 | .buildSlice ..=>if Nat.beq o.type 4000000 then 0 else 3
 | .call c=>match c.callee with
  | .builtin .len=>1
  | .builtin .min | .builtin .max=>0
  |_=>3
 |_=>3
def BN:Operand->List Nat
 | .tmp t=>[t]
 |_=>[]
def looks(ops:List Oper)(o:Oper):List Nat:=
 o.op.operands.toList.flatMap BN++
 (match o.guard with
  |some (g,_)=>(match ops[g]? with |some oj=>(match oj.dst with |some t=>[t]|none=>[])|none=>[])
  |none=>[])
def rZ(o:Oper)(l:List Nat):Bool:=match o.dst with |some d=>eV d l |none=>false
def tl(x y:Oper):Bool:=match x.dst,y.dst with |some d,some e=>Nat.beq d e |_,_=>false
def gC(acc:List Nat):List Edge->Nat
 | []=>0
 |e::es=>if Region.binds .any e then(Nat.lor (Nat.lor (Nat.shiftLeft 1 e.on) (acc.getD e.on 0)) (gC acc es)) else gC acc es
def masks:List Oper->List Nat->List Nat
 | [],acc=>acc
 |o::r,acc=>masks r (acc++[gC acc o.after.toList])
def ft{α:Type}(f:Nat->α->Bool):Nat->List α->Bool
 |_,[]=>true
 |i,x::r=>f i x&&ft f (i+1) r
def eo{α:Type}(f:Nat->α->Nat->α->Bool):Nat->List α->Bool
 |_,[]=>true
 |i,x::r=>ft (f i x) (i+1) r&&eo f (i+1) r
def zV(M:List Nat)(i:Nat)(o:Oper):Bool:=
 Nat.beq (M.getD i 0) (gC M o.after.toList)&&o.after.toList.all (λe=> !Region.binds .any e ||Nat.blt e.on i)&&
 (match o.guard with |none=>true |some (j,_)=>Nat.testBit (M.getD i 0) j)
def yN(ops:List Oper)(M:List Nat)(i:Nat)(x:Oper)(j:Nat)(y:Oper):Bool:=
 !tl x y&&(Nat.testBit (M.getD j 0) i || (!rZ x (looks ops y)&& !rZ y (looks ops x)&&(Nat.ble (ar x) 1 ||Nat.ble (ar y) 1)))
def kh(m:Nat)(ops:List Oper)(M:List Nat)(i:Nat)(x:Oper)(j:Nat)(y:Oper):Bool:=
 !tl x y&&(Nat.testBit (M.getD j 0) i || (!rZ x (looks ops y)&& !rZ y (looks ops x)&&(Nat.ble (ar x) 1 ||Nat.ble (ar y) 1 ||Nat.beq j m)))
theorem r5{m:Nat}{ops:List Oper}{M:List Nat}{i j:Nat}{x y:Oper}(h:yN ops M i x j y=true):kh m ops M i x j y=true:=by simp only[yN,kh,zad,zbR] at h⊢;exact⟨h.1,h.2.imp id λh=>⟨h.1,.inl h.2⟩⟩
def BO(m:Nat)(ops:List Oper)(M:List Nat)(i:Nat)(_:Oper):Bool:=
 !Nat.testBit (M.getD i 0) m ||ft (λx px=>Nat.ble m x ||Nat.ble (ar px) 1 ||Nat.testBit (M.getD i 0) x) 0 ops
def ga(o:Oper):Option (TypeId×Nat):=match o.op,o.guard,o.dst with | .alloc t,none,some d=>some (t,d)|_,_,_=>none
def BP(x y:Oper):Bool:=Nat.beq (ar x) 0 ||Nat.beq (ar y) 0 || (Nat.ble (ar x) 1&&Nat.ble (ar y) 1)
def b9(ops:List Oper):Nat:=
 if ft (zV (masks ops [])) 0 ops&&eo (yN ops (masks ops [])) 0 ops then
  (if eo (λi x j y=>Nat.testBit ((masks ops []).getD j 0) i ||BP x y) 0 ops then 2 else 1) else 0
def aO:List P->List Nat
 | []=>[]
 | .sl n _ _::r=>n::aO r
 | .hZ n _ _ _ _::r=>n::aO r
 |_::r=>aO r
def writes(Q:Program)(s:S)(o:Oper)(g:Option (Nat×Bool)):List Nat×Nat×Nat:=
 match bT Q o with
 |some _=>([site o.dst],0,0)
 |none=>match o.op with
  | .alloc t=>match cQ Q t with |some z=>([site o.dst],site o.dst*1000,site o.dst*1000+z.cells.length)|none=>([],0,0)
  | .box _ x=>([site o.dst],site o.dst*1000,site o.dst*1000+(s.eg g x).cells.length)
  | .store _ ad x=>match s.eg g ad with
   | .ref n _ off=>(n::aO (s.eg g x).cells,2000000+n*1000+off,2000000+n*1000+off+1)
   | .bR n _ _ _ _=>(n::aO (s.eg g x).cells,0,0)
   |_=>([],0,0)
  | .call c=>match c.callee with
   | .value f=>(match s.eg g f with
    | .fn fN bH=>(match bL Q s fN (c.args.toList.map (s.eg g)++bH) with
     |some (s1,qs)=>(aO ((c.args.toList.map (s.eg g)++bH).flatMap P.cells)++reach s1.rg 1000 qs [],site o.dst*1000,site o.dst*1000+1000)
     |none=>([],0,0))
    |_=>([],0,0))
   | .builtin .append=>(match c.args.toList with
    |x::_=>(match s.eg g x with | .sl n _ _=>([n],0,0)|_=>([site o.dst],0,0))
    | []=>([],0,0))
   | .builtin .copy=>(match c.args.toList with
    |x::_=>(match s.eg g x with | .sl n _ _=>([n],0,0)|_=>([],0,0))
    | []=>([],0,0))
   | .builtin .clear=>(match c.args.toList with
    |x::_=>(match s.eg g x with | .hZ n _ _ _ _=>([n],0,0)|_=>([],0,0))
    | []=>([],0,0))
   | .builtin .delete=>(match c.args.toList with
    |x::_=>(match s.eg g x with | .mp n _=>([n],0,0)|_=>([],0,0))
    | []=>([],0,0))
   |_=>([],0,0)
  | .makeSlice .. | .makeMap ..=>([site o.dst],0,0)
  | .mapUpdate _ m _ x=>(match s.eg g m with | .mp n _=>n::aO (s.eg g x).cells |_=>[],0,0)
  | .insert _ m _ x=>(match s.eg g m with | .mp n _=>n::aO (s.eg g x).cells |_=>[],0,0)
  | .mapEntry _ m _=>(match s.eg g m with | .mp n _=>[site o.dst,n]|_=>[site o.dst],0,0)
  | .entryStore _ m _ x=>(match s.eg g m with | .mp n _=>n::aO (s.eg g x).cells |_=>[],0,0)
  | .range _ x=>(match s.eg g x with | .mp n _=>[site o.dst,n]|_=>[site o.dst],0,0)
  | .buildSlice _ _ parts=>(site o.dst::parts.toList.flatMap λx=>aO (s.eg g x.2).cells,0,0)
  |_=>([],0,0)
def k7:List P->List Nat
 | []=>[]
 |p::r=>match p.name with |some (n,_)=>n::k7 r |none=>k7 r
structure Info where
 pure:Bool
 ns:List Nat
 ws:List Nat×Nat×Nat
def aQ(Q:Program)(ops:List Oper)(s:S)(o:Oper):Info:=
 match aG ops o with
 |none=>⟨false,[],[],0,0⟩
 |some g=>if Nat.ble (ar o) 1 then⟨true,if Nat.beq (ar o) 0 then [] else k7 (o.op.operands.toList.map (s.eg g)),[],0,0⟩ else⟨false,[],writes Q s o g⟩
def yO(ns:List Nat)(W:List Nat×Nat×Nat):Bool:=ns.all λn=> !eV n W.1&& !(Nat.ble W.2.1 n&&Nat.blt n W.2.2)
def iB(x y:Info):Bool:=
 if x.pure then(if y.pure then true else yO x.ns y.ws) else(if y.pure then yO y.ns x.ws else false)
structure Step where
 info:Info
 Oa:List (Nat×En)
 Ob:List (Nat×En)
 look:Option TypeId
 Oc:Option (TypeId×Nat)
def xu(o:Oper):Option TypeId:=match o.op with | .lookup t _ _ false=>some t |_=>none
def BQ(o:Oper):Option (TypeId×Nat):=match o.op with | .mapEntry t _ _=>some (t,site o.dst)|_=>none
def iL(Q:Program)(ops:List Oper)(s:S)(o:Oper)(s1:S):Step:=⟨aQ Q ops s o,s.rg,s1.rg,xu o,BQ o⟩
def leaves(x y:Step)(same:Prop->Prop)(q:Prop):Prop:=
 match y.Oc,x.look with
 |some (t,n),some t'=>cond (Nat.beq t t'&& !eV n x.info.ns) q (same q)
 |_,_=>same q
def BR(W:List Nat×Nat×Nat)(n:Nat):Bool:=eV n W.1 || (Nat.ble W.2.1 n&&Nat.blt n W.2.2)
def mw:List Nat->Step->Prop->Prop
 | [],_,q=>q
 |n::r,y,q=>cond (BR y.info.ws n) (lk y.Ob n=lk y.Oa n/\mw r y q) (mw r y q)
def eY(m:Nat)(M:List Nat)(i:Nat)(x:Step)(j:Nat)(y:Step)(q:Prop):Prop:=
 cond (Nat.testBit (M.getD j 0) i ||iB x.info y.info) q (cond x.info.pure (cond y.info.pure q (leaves x y (mw x.info.ns y) q)) (cond y.info.pure (leaves y x (mw y.info.ns x) q) (cond (Nat.beq j m) q False)))
def zW(f:Nat->Step->Prop->Prop):Nat->List Step->Prop->Prop
 |_,[],q=>q
 |i,x::r,q=>f i x (zW f (i+1) r q)
def nk(f:Nat->Step->Nat->Step->Prop->Prop):Nat->List Step->Prop->Prop
 |_,[],q=>q
 |i,x::r,q=>zW (f i x) (i+1) r (nk f (i+1) r q)
def ki(m:Nat)(M:List Nat)(l:List Step)(q:Prop):Prop:=nk (eY m M) 0 l q
def kj(Q:Program)(cf:CF)(ops:List Oper):List Oper->S->Option (S×List Step)
 | [],s=>some (s,[])
 |o::r,s=>match aM Q cf ops s o with
  |none=>none
  |some s1=>match kj Q cf ops r s1 with
   |some (s2,l)=>some (s2,iL Q ops s o s1::l)
   |none=>none
def EB(ops:List Oper)(o:Oper):Bool:=
 match o.op,o.dst,o.guard with
 | .buildSlice ..,some d,none=>ops.any λp=>match p.op with
  | .call c=>(match c.callee,c.args.toList with | .builtin .append,[_,.tmp u]=>Nat.beq u d |_,_=>false)
  |_=>false
 |_,_,_=>false
def gD(ops:List Oper)(o:Oper):Oper:=if EB ops o then {o with type:=4000000} else o
def bO(ops:List Oper):List Oper:=ops.map (gD ops)
def np(ops:List Oper)(M:List Nat):Nat->List Oper->Option (Nat×TypeId×Nat)
 |_,[]=>none
 |j,o::r=>match ga o with
  |some (t,d)=>if ft (λi x=>Nat.ble j i ||Nat.ble (ar x) 1 ||Nat.testBit (M.getD j 0) i) 0 ops then np ops M (j+1) r else some (j,t,d)
  |none=>np ops M (j+1) r
def tn(ops:List Oper):Option (Nat×TypeId×Nat):=np ops (masks ops []) 0 ops
def tp(ops:List Oper)(m:Nat):Bool:=ft (zV (masks ops [])) 0 ops&&eo (kh m ops (masks ops [])) 0 ops&&ft (BO m ops (masks ops [])) 0 ops
def gE(ops:List Oper):Nat:=
 match b9 ops with
 |0=>(match b9 (bO ops) with
  |0=>(match tn ops with |some (m,_,_)=>if tp ops m then 6 else 0 |none=>0)
  |k+1=>k+4)
 |k+1=>k+1
open Classical in
noncomputable def fB(Q:Program)(cf:CF)(ops:List Oper)(s:S):Option S:=
 match b9 ops with
 |0=>none
 |1=>(match kj Q cf ops ops s with
  |some (s1,l)=>if ki 0 (masks ops []) l True then some s1 else none
  |none=>none)
 |_=>cn Q cf ops ops s
open Classical in
noncomputable def mx(Q:Program)(cf:CF)(ops:List Oper)(s:S):Option S:=
 match tn ops with
 |some (m,t,d)=>if tp ops m=true/\lz Q t=false/\lk s.tm d=none then(match kj Q cf ops ops s with
  |some (s1,l)=>if ki m (masks ops []) l True then some s1 else none
  |none=>none) else none
 |none=>none
noncomputable def fu(Q:Program)(cf:CF)(ops:List Oper)(s:S):Option S:=
 match b9 ops with
 |0=>(match b9 (bO ops) with
  |0=>mx Q cf ops s
  |_=>fB Q cf (bO ops) s)
 |_=>fB Q cf ops s
end Pi
