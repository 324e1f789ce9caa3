/- The text PiDraw. -/
import Derived.Test.YtngoddkencoalaaGreatDoorPiCode
namespace Pi
open Go
def aB (o:Oper):Nat:=
 match o.op with
 | .move _ | .pick .. | .unOp .. | .index .. | .field .. | .extract .. | .build ..=>0
 | .assign (.const (.slice none 0 0))=>2
 | .assign _=>0
 | .nilCheck _ | .binOp .. | .load .. | .fieldAddr .. | .indexAddr .. | .slice _ _ _ _ none=>1
 | .convert ..=>1
 | .alloc _ | .box .. | .makeMap ..=>2
 | .lookup .. | .entry _=>1
 | .buildSlice ..=>if Nat.beq o.type 4000000 then 0 else 3
 | .call c=>match c.callee with
  | .builtin .len=>1
  | .builtin .min | .builtin .max=>0
  |_=>3
 |_=>3
def OJ:Operand->List Nat
 | .tmp t=>[t]
 |_=>[]
def looks (ops:List Oper) (o:Oper):List Nat:=
 o.op.operands.toList.flatMap OJ++
 (match o.guard with
  |some (g,_)=>(match ops[g]? with |some oj=>(match oj.dst with |some t=>[t]|none=>[])|none=>[])
  |none=>[])
def Aw (o:Oper) (l:List Nat):Bool:=match o.dst with |some d=>gR d l |none=>false
def BZ (x y:Oper):Bool:=match x.dst,y.dst with |some d,some e=>Nat.beq d e |_,_=>false
def kJ (acc:List Nat):List Edge->Nat
 | []=>0
 |e::es=>if Region.binds .any e then(Nat.lor (Nat.lor (Nat.shiftLeft 1 e.on) (acc.getD e.on 0)) (kJ acc es)) else kJ acc es
def masks:List Oper->List Nat->List Nat
 | [],acc=>acc
 |o::r,acc=>masks r (acc++[kJ acc o.after.toList])
def jc {α:Type} (f:Nat->α->Bool):Nat->List α->Bool
 |_,[]=>true
 |i,x::r=>f i x&&jc f (i+1) r
def gE {α:Type} (f:Nat->α->Nat->α->Bool):Nat->List α->Bool
 |_,[]=>true
 |i,x::r=>jc (f i x) (i+1) r&&gE f (i+1) r
def LL (M:List Nat) (i:Nat) (o:Oper):Bool:=
 Nat.beq (M.getD i 0) (kJ M o.after.toList)&&o.after.toList.all (fun e=> !Region.binds .any e ||Nat.blt e.on i)&&
 (match o.guard with |none=>true |some (j,_)=>Nat.testBit (M.getD i 0) j)
def J1 (ops:List Oper) (M:List Nat) (i:Nat) (x:Oper) (j:Nat) (y:Oper):Bool:=
 !BZ x y&&(Nat.testBit (M.getD j 0) i || (!Aw x (looks ops y)&& !Aw y (looks ops x)&&(Nat.ble (aB x) 1 ||Nat.ble (aB y) 1)))
def o4 (m:Nat) (ops:List Oper) (M:List Nat) (i:Nat) (x:Oper) (j:Nat) (y:Oper):Bool:=
 !BZ x y&&(Nat.testBit (M.getD j 0) i || (!Aw x (looks ops y)&& !Aw y (looks ops x)&&(Nat.ble (aB x) 1 ||Nat.ble (aB y) 1 ||Nat.beq j m)))
theorem Ax {m:Nat} {ops:List Oper} {M:List Nat} {i j:Nat} {x y:Oper} (h:J1 ops M i x j y=true):o4 m ops M i x j y=true:=by
 simp only[J1,o4,zab,za9] at h⊢
 exact⟨h.1,h.2.imp id fun h=>⟨h.1,.inl h.2⟩⟩
def OL (m:Nat) (ops:List Oper) (M:List Nat) (i:Nat) (_:Oper):Bool:=
 !Nat.testBit (M.getD i 0) m ||jc (fun x px=>Nat.ble m x ||Nat.ble (aB px) 1 ||Nat.testBit (M.getD i 0) x) 0 ops
def j7 (o:Oper):Option (TypeId×Nat):=match o.op,o.guard,o.dst with | .alloc t,none,some d=>some (t,d)|_,_,_=>none
def OM (x y:Oper):Bool:=Nat.beq (aB x) 0 ||Nat.beq (aB y) 0 || (Nat.ble (aB x) 1&&Nat.ble (aB y) 1)
def dh (ops:List Oper):Nat:=
 if jc (LL (masks ops [])) 0 ops&&gE (J1 ops (masks ops [])) 0 ops then
  (if gE (fun i x j y=>Nat.testBit ((masks ops []).getD j 0) i ||OM x y) 0 ops then 2 else 1) else 0
def bE:List P->List Nat
 | []=>[]
 | .sl n _ _::r=>n::bE r
 | .lC n _ _ _ _::r=>n::bE r
 |_::r=>bE r
def writes (Q:Program) (s:S) (o:Oper) (g:Option (Nat×Bool)):List Nat×Nat×Nat:=
 match cZ Q o with
 |some _=>([site o.dst],0,0)
 |none=>match o.op with
  | .alloc t=>match ey Q t with |some z=>([site o.dst],site o.dst*1000,site o.dst*1000+z.cells.length)|none=>([],0,0)
  | .box _ x=>([site o.dst],site o.dst*1000,site o.dst*1000+(s.eg g x).cells.length)
  | .store _ ad x=>match s.eg g ad with
   | .ref n _ off=>(n::bE (s.eg g x).cells,2000000+n*1000+off,2000000+n*1000+off+1)
   | .dx n _ _ _ _=>(n::bE (s.eg g x).cells,0,0)
   |_=>([],0,0)
  | .call c=>match c.callee with
   | .value f=>(match s.eg g f with
    | .fn ku cG=>(match cL Q s ku (c.args.toList.map (s.eg g)++cG) with
     |some (s1,qs)=>(bE ((c.args.toList.map (s.eg g)++cG).flatMap P.cells)++reach s1.rg 1000 qs [],site o.dst*1000,site o.dst*1000+1000)
     |none=>([],0,0))
    |_=>([],0,0))
   | .builtin .append=>(match c.args.toList with
    |x::_=>(match s.eg g x with | .sl n _ _=>([n],0,0)|_=>([site o.dst],0,0))
    | []=>([],0,0))
   | .builtin .copy=>(match c.args.toList with
    |x::_=>(match s.eg g x with | .sl n _ _=>([n],0,0)|_=>([],0,0))
    | []=>([],0,0))
   | .builtin .clear=>(match c.args.toList with
    |x::_=>(match s.eg g x with | .lC n _ _ _ _=>([n],0,0)|_=>([],0,0))
    | []=>([],0,0))
   |_=>([],0,0)
  | .makeSlice .. | .makeMap ..=>([site o.dst],0,0)
  | .mapUpdate _ m _ x=>(match s.eg g m with | .mp n _=>n::bE (s.eg g x).cells |_=>[],0,0)
  | .insert _ m _ x=>(match s.eg g m with | .mp n _=>n::bE (s.eg g x).cells |_=>[],0,0)
  | .mapEntry _ m _=>(match s.eg g m with | .mp n _=>[site o.dst,n]|_=>[site o.dst],0,0)
  | .entryStore _ m _ x=>(match s.eg g m with | .mp n _=>n::bE (s.eg g x).cells |_=>[],0,0)
  | .range _ x=>(match s.eg g x with | .mp n _=>[site o.dst,n]|_=>[site o.dst],0,0)
  | .buildSlice _ _ parts=>(site o.dst::parts.toList.flatMap fun x=>bE (s.eg g x.2).cells,0,0)
  |_=>([],0,0)
def pY:List P->List Nat
 | []=>[]
 |p::r=>match p.name with |some (n,_)=>n::pY r |none=>pY r
structure Info where
 pure:Bool
 ns:List Nat
 ws:List Nat×Nat×Nat
def bK (Q:Program) (ops:List Oper) (s:S) (o:Oper):Info:=
 match bn ops o with
 |none=>⟨false,[],[],0,0⟩
 |some g=>if Nat.ble (aB o) 1 then⟨true,if Nat.beq (aB o) 0 then [] else pY (o.op.operands.toList.map (s.eg g)),[],0,0⟩ else⟨false,[],writes Q s o g⟩
def J2 (ns:List Nat) (W:List Nat×Nat×Nat):Bool:=ns.all fun n=> !gR n W.1&& !(Nat.ble W.2.1 n&&Nat.blt n W.2.2)
def l9 (x y:Info):Bool:=
 if x.pure then(if y.pure then true else J2 x.ns y.ws) else(if y.pure then J2 y.ns x.ws else false)
structure Step where
 info:Info
 bef:List (Nat×En)
 aft:List (Nat×En)
 look:Option TypeId
 ent:Option (TypeId×Nat)
def Hw (o:Oper):Option TypeId:=match o.op with | .lookup t _ _ false=>some t |_=>none
def ON (o:Oper):Option (TypeId×Nat):=match o.op with | .mapEntry t _ _=>some (t,site o.dst)|_=>none
def mA (Q:Program) (ops:List Oper) (s:S) (o:Oper) (s1:S):Step:=⟨bK Q ops s o,s.rg,s1.rg,Hw o,ON o⟩
def leaves (x y:Step) (same:Prop->Prop) (q:Prop):Prop:=
 match y.ent,x.look with
 |some (t,n),some t'=>cond (Nat.beq t t'&& !gR n x.info.ns) q (same q)
 |_,_=>same q
def OO (W:List Nat×Nat×Nat) (n:Nat):Bool:=gR n W.1 || (Nat.ble W.2.1 n&&Nat.blt n W.2.2)
def se:List Nat->Step->Prop->Prop
 | [],_,q=>q
 |n::r,y,q=>cond (OO y.info.ws n) (lk y.aft n=lk y.bef n/\se r y q) (se r y q)
def ix (m:Nat) (M:List Nat) (i:Nat) (x:Step) (j:Nat) (y:Step) (q:Prop):Prop:=
 cond (Nat.testBit (M.getD j 0) i ||l9 x.info y.info) q (cond x.info.pure (cond y.info.pure q (leaves x y (se x.info.ns y) q)) (cond y.info.pure (leaves y x (se y.info.ns x) q) (cond (Nat.beq j m) q False)))
def LM (f:Nat->Step->Prop->Prop):Nat->List Step->Prop->Prop
 |_,[],q=>q
 |i,x::r,q=>f i x (LM f (i+1) r q)
def tH (f:Nat->Step->Nat->Step->Prop->Prop):Nat->List Step->Prop->Prop
 |_,[],q=>q
 |i,x::r,q=>LM (f i x) (i+1) r (tH f (i+1) r q)
def o5 (m:Nat) (M:List Nat) (l:List Step) (q:Prop):Prop:=tH (ix m M) 0 l q
def o6 (Q:Program) (cf:CF) (ops:List Oper):List Oper->S->Option (S×List Step)
 | [],s=>some (s,[])
 |o::r,s=>match bu Q cf ops s o with
  |none=>none
  |some s1=>match o6 Q cf ops r s1 with
   |some (s2,l)=>some (s2,mA Q ops s o s1::l)
   |none=>none
def VI (ops:List Oper) (o:Oper):Bool:=
 match o.op,o.dst,o.guard with
 | .buildSlice ..,some d,none=>ops.any fun p=>match p.op with
  | .call c=>(match c.callee,c.args.toList with | .builtin .append,[_,.tmp u]=>Nat.beq u d |_,_=>false)
  |_=>false
 |_,_,_=>false
def kK (ops:List Oper) (o:Oper):Oper:=if VI ops o then {o with type:=4000000} else o
def cR (ops:List Oper):List Oper:=ops.map (kK ops)
def tI (ops:List Oper) (M:List Nat):Nat->List Oper->Option (Nat×TypeId×Nat)
 |_,[]=>none
 |j,o::r=>match j7 o with
  |some (t,d)=>if jc (fun i x=>Nat.ble j i ||Nat.ble (aB x) 1 ||Nat.testBit (M.getD j 0) i) 0 ops then tI ops M (j+1) r else some (j,t,d)
  |none=>tI ops M (j+1) r
def B0 (ops:List Oper):Option (Nat×TypeId×Nat):=tI ops (masks ops []) 0 ops
def B1 (ops:List Oper) (m:Nat):Bool:=jc (LL (masks ops [])) 0 ops&&gE (o4 m ops (masks ops [])) 0 ops&&jc (OL m ops (masks ops [])) 0 ops
def kL (ops:List Oper):Nat:=
 match dh ops with
 |0=>(match dh (cR ops) with
  |0=>(match B0 ops with |some (m,_,_)=>if B1 ops m then 6 else 0 |none=>0)
  |k+1=>k+4)
 |k+1=>k+1
open Classical in
noncomputable def jl (Q:Program) (cf:CF) (ops:List Oper) (s:S):Option S:=
 match dh ops with
 |0=>none
 |1=>(match o6 Q cf ops ops s with
  |some (s1,l)=>if o5 0 (masks ops []) l True then some s1 else none
  |none=>none)
 |_=>dv Q cf ops ops s
open Classical in
noncomputable def sf (Q:Program) (cf:CF) (ops:List Oper) (s:S):Option S:=
 match B0 ops with
 |some (m,t,d)=>if B1 ops m=true/\qH Q t=false/\lk s.tm d=none then(match o6 Q cf ops ops s with
  |some (s1,l)=>if o5 m (masks ops []) l True then some s1 else none
  |none=>none) else none
 |none=>none
noncomputable def jd (Q:Program) (cf:CF) (ops:List Oper) (s:S):Option S:=
 match dh ops with
 |0=>(match dh (cR ops) with
  |0=>sf Q cf ops s
  |_=>jl Q cf (cR ops) s)
 |_=>jl Q cf ops s
end Pi
