/- The text PiDraw. -/
import Derived.Test.YtngoddkencoalaaGreatDoorPiCode
namespace Pi
open Go
def aA (o:Oper):Nat:=
 match o.op with
 | .move _ | .pick .. | .unOp .. | .index .. | .field .. | .extract .. | .build ..=>0
 | .assign (.const (.slice none 0 0))=>2
 | .assign _=>0
 | .nilCheck _ | .binOp .. | .load .. | .fieldAddr .. | .indexAddr .. | .slice _ _ _ _ none=>1
 | .convert ..=>1
 | .alloc _ | .box .. | .makeMap ..=>2
 | .lookup .. | .entry _=>1
 | .buildSlice ..=>if Nat.beq o.type 4000000 then 0 else 3
 | .call c=>match c.callee with
  | .builtin .len=>1
  | .builtin .min | .builtin .max=>0
  |_=>3
 |_=>3
def MT:Operand->List Nat
 | .tmp t=>[t]
 |_=>[]
def looks (ops:List Oper) (o:Oper):List Nat:=
 o.op.operands.toList.flatMap MT++
 (match o.guard with
  |some (g,_)=>(match ops[g]? with |some oj=>(match oj.dst with |some t=>[t]|none=>[])|none=>[])
  |none=>[])
def zx (o:Oper) (l:List Nat):Bool:=match o.dst with |some d=>gw d l |none=>false
def AZ (x y:Oper):Bool:=match x.dst,y.dst with |some d,some e=>Nat.beq d e |_,_=>false
def jX (acc:List Nat):List Edge->Nat
 | []=>0
 |e::es=>if Region.binds .any e then(Nat.lor (Nat.lor (Nat.shiftLeft 1 e.on) (acc.getD e.on 0)) (jX acc es)) else jX acc es
def masks:List Oper->List Nat->List Nat
 | [],acc=>acc
 |o::r,acc=>masks r (acc++[jX acc o.after.toList])
def iH {α:Type} (f:Nat->α->Bool):Nat->List α->Bool
 |_,[]=>true
 |i,x::r=>f i x&&iH f (i+1) r
def gg {α:Type} (f:Nat->α->Nat->α->Bool):Nat->List α->Bool
 |_,[]=>true
 |i,x::r=>iH (f i x) (i+1) r&&gg f (i+1) r
def J2 (M:List Nat) (i:Nat) (o:Oper):Bool:=
 Nat.beq (M.getD i 0) (jX M o.after.toList)&&o.after.toList.all (fun e=> !Region.binds .any e ||Nat.blt e.on i)&&
 (match o.guard with |none=>true |some (j,_)=>Nat.testBit (M.getD i 0) j)
def Ib (ops:List Oper) (M:List Nat) (i:Nat) (x:Oper) (j:Nat) (y:Oper):Bool:=
 !AZ x y&&(Nat.testBit (M.getD j 0) i || (!zx x (looks ops y)&& !zx y (looks ops x)&&(Nat.ble (aA x) 1 ||Nat.ble (aA y) 1)))
def oo (m:Nat) (ops:List Oper) (M:List Nat) (i:Nat) (x:Oper) (j:Nat) (y:Oper):Bool:=
 !AZ x y&&(Nat.testBit (M.getD j 0) i || (!zx x (looks ops y)&& !zx y (looks ops x)&&(Nat.ble (aA x) 1 ||Nat.ble (aA y) 1 ||Nat.beq j m)))
theorem zy {m:Nat} {ops:List Oper} {M:List Nat} {i j:Nat} {x y:Oper} (h:Ib ops M i x j y=true):oo m ops M i x j y=true:=by
 simp only[Ib,oo,Bool.and_eq_true,Bool.or_eq_true] at h⊢
 exact⟨h.1,h.2.imp id fun h=>⟨h.1,.inl h.2⟩⟩
def MU (m:Nat) (ops:List Oper) (M:List Nat) (i:Nat) (_:Oper):Bool:=
 !Nat.testBit (M.getD i 0) m ||iH (fun x px=>Nat.ble m x ||Nat.ble (aA px) 1 ||Nat.testBit (M.getD i 0) x) 0 ops
def jB (o:Oper):Option (TypeId×Nat):=match o.op,o.guard,o.dst with | .alloc t,none,some d=>some (t,d)|_,_,_=>none
def MV (x y:Oper):Bool:=Nat.beq (aA x) 0 ||Nat.beq (aA y) 0 || (Nat.ble (aA x) 1&&Nat.ble (aA y) 1)
def cg (ops:List Oper):Nat:=
 if iH (J2 (masks ops [])) 0 ops&&gg (Ib ops (masks ops [])) 0 ops then
  (if gg (fun i x j y=>Nat.testBit ((masks ops []).getD j 0) i ||MV x y) 0 ops then 2 else 1) else 0
def bw:List P->List Nat
 | []=>[]
 | .sl n _ _::r=>n::bw r
 | .kT n _ _ _ _::r=>n::bw r
 |_::r=>bw r
def writes (Q:Program) (s:S) (o:Oper) (g:Option (Nat×Bool)):List Nat×Nat×Nat:=
 match cP Q o with
 |some _=>([site o.dst],0,0)
 |none=>match o.op with
  | .alloc t=>match dY Q t with |some z=>([site o.dst],site o.dst*1000,site o.dst*1000+z.cells.length)|none=>([],0,0)
  | .box _ x=>([site o.dst],site o.dst*1000,site o.dst*1000+(s.eg g x).cells.length)
  | .store _ ad x=>match s.eg g ad with
   | .ref n _ off=>(n::bw (s.eg g x).cells,2000000+n*1000+off,2000000+n*1000+off+1)
   | .dn n _ _ _ _=>(n::bw (s.eg g x).cells,0,0)
   |_=>([],0,0)
  | .call c=>match c.callee with
   | .value f=>(match s.eg g f with
    | .fn ju cy=>(match cG Q s ju (c.args.toList.map (s.eg g)++cy) with
     |some (s1,qs)=>(bw ((c.args.toList.map (s.eg g)++cy).flatMap P.cells)++reach s1.rg 1000 qs [],site o.dst*1000,site o.dst*1000+1000)
     |none=>([],0,0))
    |_=>([],0,0))
   | .builtin .append=>(match c.args.toList with
    |x::_=>(match s.eg g x with | .sl n _ _=>([n],0,0)|_=>([site o.dst],0,0))
    | []=>([],0,0))
   | .builtin .copy=>(match c.args.toList with
    |x::_=>(match s.eg g x with | .sl n _ _=>([n],0,0)|_=>([],0,0))
    | []=>([],0,0))
   | .builtin .clear=>(match c.args.toList with
    |x::_=>(match s.eg g x with | .kT n _ _ _ _=>([n],0,0)|_=>([],0,0))
    | []=>([],0,0))
   |_=>([],0,0)
  | .makeSlice .. | .makeMap ..=>([site o.dst],0,0)
  | .mapUpdate _ m _ x=>(match s.eg g m with | .mp n _=>n::bw (s.eg g x).cells |_=>[],0,0)
  | .insert _ m _ x=>(match s.eg g m with | .mp n _=>n::bw (s.eg g x).cells |_=>[],0,0)
  | .mapEntry _ m _=>(match s.eg g m with | .mp n _=>[site o.dst,n]|_=>[site o.dst],0,0)
  | .entryStore _ m _ x=>(match s.eg g m with | .mp n _=>n::bw (s.eg g x).cells |_=>[],0,0)
  | .range _ x=>(match s.eg g x with | .mp n _=>[site o.dst,n]|_=>[site o.dst],0,0)
  | .buildSlice _ _ parts=>(site o.dst::parts.toList.flatMap fun x=>bw (s.eg g x.2).cells,0,0)
  |_=>([],0,0)
def pw:List P->List Nat
 | []=>[]
 |p::r=>match p.name with |some (n,_)=>n::pw r |none=>pw r
structure Info where
 pure:Bool
 ns:List Nat
 ws:List Nat×Nat×Nat
def bK (Q:Program) (ops:List Oper) (s:S) (o:Oper):Info:=
 match bj ops o with
 |none=>⟨false,[],[],0,0⟩
 |some g=>if Nat.ble (aA o) 1 then⟨true,if Nat.beq (aA o) 0 then [] else pw (o.op.operands.toList.map (s.eg g)),[],0,0⟩ else⟨false,[],writes Q s o g⟩
def Ic (ns:List Nat) (W:List Nat×Nat×Nat):Bool:=ns.all fun n=> !gw n W.1&& !(Nat.ble W.2.1 n&&Nat.blt n W.2.2)
def lq (x y:Info):Bool:=
 if x.pure then(if y.pure then true else Ic x.ns y.ws) else(if y.pure then Ic y.ns x.ws else false)
structure Step where
 info:Info
 bef:List (Nat×En)
 aft:List (Nat×En)
 look:Option TypeId
 ent:Option (TypeId×Nat)
def FX (o:Oper):Option TypeId:=match o.op with | .lookup t _ _ false=>some t |_=>none
def MW (o:Oper):Option (TypeId×Nat):=match o.op with | .mapEntry t _ _=>some (t,site o.dst)|_=>none
def lP (Q:Program) (ops:List Oper) (s:S) (o:Oper) (s1:S):Step:=⟨bK Q ops s o,s.rg,s1.rg,FX o,MW o⟩
def leaves (x y:Step) (same:Prop->Prop) (q:Prop):Prop:=
 match y.ent,x.look with
 |some (t,n),some t'=>cond (Nat.beq t t'&& !gw n x.info.ns) q (same q)
 |_,_=>same q
def MX (W:List Nat×Nat×Nat) (n:Nat):Bool:=gw n W.1 || (Nat.ble W.2.1 n&&Nat.blt n W.2.2)
def rV:List Nat->Step->Prop->Prop
 | [],_,q=>q
 |n::r,y,q=>cond (MX y.info.ws n) (lk y.aft n=lk y.bef n/\rV r y q) (rV r y q)
def hJ (m:Nat) (M:List Nat) (i:Nat) (x:Step) (j:Nat) (y:Step) (q:Prop):Prop:=
 cond (Nat.testBit (M.getD j 0) i ||lq x.info y.info) q (cond x.info.pure (cond y.info.pure q (leaves x y (rV x.info.ns y) q)) (cond y.info.pure (leaves y x (rV y.info.ns x) q) (cond (Nat.beq j m) q False)))
def J3 (f:Nat->Step->Prop->Prop):Nat->List Step->Prop->Prop
 |_,[],q=>q
 |i,x::r,q=>f i x (J3 f (i+1) r q)
def qT (f:Nat->Step->Nat->Step->Prop->Prop):Nat->List Step->Prop->Prop
 |_,[],q=>q
 |i,x::r,q=>J3 (f i x) (i+1) r (qT f (i+1) r q)
def oq (m:Nat) (M:List Nat) (l:List Step) (q:Prop):Prop:=qT (hJ m M) 0 l q
def ot (Q:Program) (cf:CF) (ops:List Oper):List Oper->S->Option (S×List Step)
 | [],s=>some (s,[])
 |o::r,s=>match br Q cf ops s o with
  |none=>none
  |some s1=>match ot Q cf ops r s1 with
   |some (s2,l)=>some (s2,lP Q ops s o s1::l)
   |none=>none
def S3 (ops:List Oper) (o:Oper):Bool:=
 match o.op,o.dst,o.guard with
 | .buildSlice ..,some d,none=>ops.any fun p=>match p.op with
  | .call c=>(match c.callee,c.args.toList with | .builtin .append,[_,.tmp u]=>Nat.beq u d |_,_=>false)
  |_=>false
 |_,_,_=>false
def jf (ops:List Oper) (o:Oper):Oper:=if S3 ops o then {o with type:=4000000} else o
def cI (ops:List Oper):List Oper:=ops.map (jf ops)
def sS (ops:List Oper) (M:List Nat):Nat->List Oper->Option (Nat×TypeId×Nat)
 |_,[]=>none
 |j,o::r=>match jB o with
  |some (t,d)=>if iH (fun i x=>Nat.ble j i ||Nat.ble (aA x) 1 ||Nat.testBit (M.getD j 0) i) 0 ops then sS ops M (j+1) r else some (j,t,d)
  |none=>sS ops M (j+1) r
def A0 (ops:List Oper):Option (Nat×TypeId×Nat):=sS ops (masks ops []) 0 ops
def A1 (ops:List Oper) (m:Nat):Bool:=iH (J2 (masks ops [])) 0 ops&&gg (oo m ops (masks ops [])) 0 ops&&iH (MU m ops (masks ops [])) 0 ops
def jY (ops:List Oper):Nat:=
 match cg ops with
 |0=>(match cg (cI ops) with
  |0=>(match A0 ops with |some (m,_,_)=>if A1 ops m then 6 else 0 |none=>0)
  |k+1=>k+4)
 |k+1=>k+1
open Classical in
noncomputable def iP (Q:Program) (cf:CF) (ops:List Oper) (s:S):Option S:=
 match cg ops with
 |0=>none
 |1=>(match ot Q cf ops ops s with
  |some (s1,l)=>if oq 0 (masks ops []) l True then some s1 else none
  |none=>none)
 |_=>dh Q cf ops ops s
open Classical in
noncomputable def rW (Q:Program) (cf:CF) (ops:List Oper) (s:S):Option S:=
 match A0 ops with
 |some (m,t,d)=>if A1 ops m=true/\qj Q t=false/\lk s.tm d=none then(match ot Q cf ops ops s with
  |some (s1,l)=>if oq m (masks ops []) l True then some s1 else none
  |none=>none) else none
 |none=>none
noncomputable def iI (Q:Program) (cf:CF) (ops:List Oper) (s:S):Option S:=
 match cg ops with
 |0=>(match cg (cI ops) with
  |0=>rW Q cf ops s
  |_=>iP Q cf (cI ops) s)
 |_=>iP Q cf ops s
end Pi
