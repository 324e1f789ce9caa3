/- The text PiBase. -/
import GoSem.Dispatch
namespace Pi
open Go
inductive D where
 |bool (b:Bool)
 |int (k:IntKind) (n:Int)
 |str (s:List UInt8)
 |agg (cs:List D)
 |sl (k:Nat) (es:List D)
 |gu
 |qP
 |rR
 |AW
 |AX
 deriving Inhabited
def D.cells:D->List D
 | .agg cs=>cs
 |x=>[x]
def D.bC:D->Bool
 | .agg _=>false
 |_=>true
inductive P where
 |d (x:D)
 |agg (ps:List P)
 |ref (n v off:Nat)
 |dn (n v i k off:Nat)
 |eS (x:D) (off:Nat)
 |sl (n v len:Nat)
 |kT (n v k off len:Nat)
 |mp (n v:Nat)
 |fn (f:FuncId) (cy:List P)
 |da (ps:List P)
 |when (slot:Nat) (want:Bool) (p:P)
 |bad
 deriving Inhabited
def P.skip:P:= .when 0 false .bad
def P.bC:P->Bool
 | .d x=>x.bC
 | .ref .. | .dn .. | .eS .. | .sl .. | .kT .. | .mp .. | .fn ..=>true
 |_=>false
inductive Obj where
 |gone
 |box (ty:TypeId) (ps:List P)
 |arr (ty:TypeId) (fz:Bool) (es:List D)
 |map (kt:Nat) (get:D->Option D) (n:Int) (fz:Bool)
 |iter (kt vt:Nat) (left:D->Option D) (cur:Option (D×D))
 |dX
 |jA (kt:Nat) (get:D->Option D) (n:Int) (p:P) (kd:D)
 deriving Inhabited
structure En where
 aU:Nat
 tag:Option Nat
 obj:Obj
def lk {α:Type}:List (Nat×α)->Nat->Option α
 | [],_=>none
 | (k,v)::r,j=>if Nat.beq k j then some v else lk r j
def ins {α:Type} (k:Nat) (v:α):List (Nat×α)->List (Nat×α)
 | []=>[(k,v)]
 | (j,u)::r=>if Nat.blt k j then(k,v)::(j,u)::r else if Nat.beq k j then(k,v)::r else(j,u)::ins k v r
structure S where
 n:Nat
 tm:List (Nat×P)
 rg:List (Nat×En)
def D.fW:D->Option Value
 | .bool b=>some (.bool b)
 | .int k n=>some (.int k n)
 | .str s=>some (.string ⟨⟨s⟩⟩)
 | .gu=>some (.slice none 0 0)
 | .qP=>some (.pointer none)
 | .rR=>some (.map none)
 | .AW=>some .nilFunc
 | .AX=>some .nilIface
 | .agg _ | .sl _ _=>none
def D.cR:List D->Option (List Value)
 | []=>some []
 |x::r=>match x.fW,D.cR r with |some v,some vs=>some (v::vs)|_,_=>none
def D.cw:D->Option Value
 | .agg cs=>match D.cR cs with |some vs=>some (.agg ⟨vs⟩)|none=>none
 |x=>x.fW
def P.cw:P->Option Value
 | .d x=>x.cw
 |_=>none
def D.lh:Value->Option D
 | .bool b=>some (.bool b)
 | .int k n=>some (.int k n)
 | .string s=>some (.str s.data.toList)
 | .slice none 0 0=>some .gu
 | .pointer none=>some .qP
 | .map none=>some .rR
 | .nilFunc=>some .AW
 | .nilIface=>some .AX
 |_=>none
def D.AY:List Value->Option (List D)
 | []=>some []
 |v::r=>match D.lh v,D.AY r with |some x,some xs=>some (x::xs)|_,_=>none
def D.sQ:Value->Option D
 | .agg cs=>match D.AY cs.toList with |some xs=>some (.agg xs)|none=>none
 |v=>D.lh v
def av {α:Type} (Q:Program):Sem α->Option α
 | .pure a=>some a
 | .program k=>av Q (k Q)
 | .mark _ k=>av Q k
 |_=>none
def dM (Q:Program) (m:Sem Value):Option P:=
 match av Q m with
 |some v=>match D.sQ v with |some x=>some (.d x)|none=>none
 |none=>none
def S.ev (s:S):Operand->P
 | .tmp t=>(lk s.tm t).getD .bad
 | .const v=>match D.sQ v with |some x=> .d x |none=> .bad
 | .func f=> .fn f []
 | .global _=> .bad
def P.under (_:Option (Nat×Bool)):P->P
 | .when ..=> .bad
 |p=>p
def S.eg (s:S) (g:Option (Nat×Bool)) (x:Operand):P:=(s.ev x).under g
def S.put (s:S) (dst:Option Nat) (p:P):Option S:=
 match dst with
 |none=>some s
 |some t=>if Nat.blt t s.n then some ⟨s.n,ins t p s.tm,s.rg⟩ else none
def yD:List P->Option (List D)
 | []=>some []
 | .d x::r=>match yD r with |some xs=>some (x::xs)|none=>none
 |_=>none
def H8 (ps:List P):P:=match yD ps with |some xs=> .d (.agg xs)|none=> .agg ps
def P.cells:P->List P
 | .agg ps=>ps
 | .d (.agg cs)=>cs.map .d
 |p=>[p]
def P.mD:P->Bool
 | .agg _ | .d _=>true
 |p=>p.bC
mutual
def D.nD:D->D->Bool
 | .bool a,.bool b=>a==b
 | .int k a,.int k' b=>k==k'&&a==b
 | .str a,.str b=>a==b
 | .agg a,.agg b=>D.FT a b
 | .sl k a,.sl k' b=>k==k'&&D.FT a b
 | .gu,.gu | .qP,.qP | .rR,.rR | .AW,.AW | .AX,.AX=>true
 |_,_=>false
def D.FT:List D->List D->Bool
 | [],[]=>true
 |x::xs,y::ys=>D.nD x y&&D.FT xs ys
 |_,_=>false
end
def cO (k v:D) (get:D->Option D):D->Option D:=fun k'=>bif D.nD k k' then some v else get k'
def Di (k:D) (get:D->Option D):D->Option D:=fun k'=>bif D.nD k k' then none else get k'
def sz (Q:Program) (t:TypeId):Option Nat:=match Q.info? t,Q.underlying t with |some i,some _=>some i.size |_,_=>none
def dp (Q:Program) (t:TypeId):Bool:=match Q.underlying t with |some (.struct _)|some (.array _ _)=>true |_=>false
def cE (Q:Program) (t:TypeId):Option TypeId:=match Q.underlying t with |some (.slice e)=>some e |_=>none
def zt (Q:Program) (t:TypeId) (ps:List P) (off:Nat):Option P:=
 match sz Q t with
 |none=>none
 |some k=>if dp Q t then(if Nat.ble (off+k) ps.length then some (H8 ((ps.drop off).take k)) else none) else ps[off]?
def iN (Q:Program) (t:TypeId) (cs:List D) (off:Nat):Option D:=
 match sz Q t with
 |none=>none
 |some k=>if dp Q t then(if Nat.ble (off+k) cs.length then some (.agg ((cs.drop off).take k)) else none) else cs[off]?
def S.obj (s:S) (n v:Nat):Option Obj:=
 match lk s.rg n with
 |some e=>if Nat.beq e.aU v then some e.obj else none
 |none=>none
def Dj (Q:Program) (go:TypeId->D->D->Option Bool):List Field->List D->List D->Option Bool
 | [],_,_=>some true
 |f::r,xs,ys=>match f.name== "_" with
  |true=>Dj Q go r xs ys
  |false=>match iN Q f.type xs f.offset,iN Q f.type ys f.offset with
   |some x,some y=>match go f.type x y,Dj Q go r xs ys with
    |some a,some b=>some (a&&b)
    |_,_=>none
   |_,_=>none
def S1 (Q:Program):Nat->TypeId->D->D->Option Bool
 |0,_,_,_=>none
 |n+1,t,x,y=>match Q.underlying t with
  |some .bool=>match x,y with | .bool a,.bool b=>some (a==b)|_,_=>none
  |some (.int _)=>match x,y with | .int k a,.int k' b=>(match k==k' with |true=>some (a==b)|false=>none)|_,_=>none
  |some .string=>match x,y with | .str a,.str b=>some (a==b)|_,_=>none
  |some (.struct fs)=>match x,y with
   | .agg xs,.agg ys=>match Q.stoodInHeld t with
    |true=>none
    |false=>Dj Q (S1 Q n) fs.toList xs ys
   |_,_=>none
  |_=>none
def oc (Q:Program):Nat->List Field->Nat->Bool
 |off,[],sM=>Nat.beq off sM
 |off,f::r,sM=>Nat.beq f.offset off&&oc Q (off+Q.cellsOf f.type) r sM
def ig (Q:Program):Nat->TypeId->D->Bool
 |0,_,_=>false
 |n+1,t,x=>match Q.underlying t with
  |some .bool=>(match x with | .bool _=>true |_=>false)
  |some (.int k)=>(match x with | .int k' _=>k==k' |_=>false)
  |some .string=>(match x with | .str _=>true |_=>false)
  |some (.struct fs)=>(match x with
   | .agg cs=>Nat.beq cs.length (Q.cellsOf t)&&oc Q 0 fs.toList (Q.cellsOf t)&& !Q.stoodInHeld t&&fs.toList.all fun f=> !(f.name== "_")&&(dp Q f.type ||Nat.beq (Q.cellsOf f.type) 1)&&(match iN Q f.type cs f.offset with |some y=>ig Q n f.type y |none=>false)
   |_=>false)
  |_=>false
def D.J0:D->Bool
 | .bool _ | .int _ _ | .str _=>true
 |_=>false
def fB (Q:Program) (kt:TypeId) (k:D):Bool:=ig Q 20 kt k&&k.cells.all D.J0&&(match k.cw with
 |some v=>(match av Q (Instr.checkKey false 10000 kt v),av Q (Instr.checkKey true 10000 kt v) with |some _,some _=>true |_,_=>false)
 |none=>false)
def jt (Q:Program) (t:TypeId):Option (TypeId×TypeId):=match Q.underlying t with |some (.map k e)=>some (k,e)|_=>none
def S.setObj (s:S) (n:Nat) (o:Obj):S:=
 match lk s.rg n with
 |some e=>{s with rg:=ins n ⟨e.aU,e.tag,o⟩ s.rg}
 |none=>s
def S.new (s:S) (n:Nat) (o:Obj):Option (S×Nat):=
 match lk s.rg n with
 |none=>some ({s with rg:=ins n ⟨0,none,o⟩ s.rg},0)
 |some e=>match e.obj with
  | .gone=>some ({s with rg:=ins n ⟨e.aU+1,none,o⟩ s.rg},e.aU+1)
  |_=>match e.tag with
   |none=>some ({s with rg:=ins n ⟨e.aU+1,none,o⟩ s.rg},e.aU+1)
   |some _=>none
def splice (ps:List P) (off:Nat) (qs:List P):List P:=ps.take off++qs++ps.drop (off+qs.length)
def site (dst:Option Nat):Nat:=1000+dst.getD 999
def S.live (s:S) (n v:Nat):Bool:=
 match s.obj n v with
 |some .gone=>false
 |some _=>true
 |none=>false
def jL (s:S) (p:P):Option P:=
 match p with
 | .ref n v _ | .dn n v _ _ _=>if s.live n v then some p else none
 | .eS .. | .fn ..=>some p
 |_=>none
def qi (Q:Program) (s:S) (t:TypeId):P->Option P
 | .ref n v off=>match s.obj n v with |some (.box _ ps)=>zt Q t ps off |_=>none
 | .dn n v i k off=>match s.obj n v with
  |some (.arr ty _ es)=>match sz Q ty,es[i]? with
   |some k',some x=>if Nat.beq k k' then(match iN Q t x.cells off with |some y=>some (.d y)|none=>none) else none
   |_,_=>none
  |_=>none
 | .eS x off=>match iN Q t x.cells off with |some y=>some (.d y)|none=>none
 |_=>none
def vR (Q:Program) (t:TypeId) (f:Nat):Option Nat:=
 match Q.underlying t with
 |some (.struct fs)=>match fs[f]? with
  |some fl=>match sz Q fl.type with |some (_+1)=>some fl.offset |_=>none
  |none=>none
 |_=>none
def ij (Q:Program) (s:S) (t:TypeId) (f:Nat) (p:P):Option P:=
 match vR Q t f with
 |none=>none
 |some o=>match p with
  | .ref n v off=>if s.live n v then some (.ref n v (off+o)) else none
  | .dn n v i k off=>if s.live n v then some (.dn n v i k (off+o)) else none
  | .eS x off=>some (.eS x (off+o))
  |_=>none
def od (Q:Program) (s:S) (len:Nat) (e:TypeId) (p:P) (i:P):Option P:=
 match i,sz Q e with
 | .d (.int _ j),some (k+1)=>if 0<=j/\j<(len:Int) then(match p with
  | .ref n v off=>if s.live n v then some (.ref n v (off+j.toNat*(k+1))) else none
  | .dn n v i k' off=>if s.live n v then some (.dn n v i k' (off+j.toNat*(k+1))) else none
  | .eS x off=>some (.eS x (off+j.toNat*(k+1)))
  |_=>none) else none
 |_,_=>none
def H9 (Q:Program) (t:TypeId):Option (Nat×TypeId):=match Q.underlying t with |some (.array n e)=>some (n,e)|_=>none
def eW (Q:Program) (s:S) (t:TypeId) (p:P) (i:P):Option P:=
 match H9 Q t with
 |some (n,e)=>od Q s n e p i
 |none=>match cE Q t,i with
 |some e,.d (.int _ j)=>match sz Q e with
  |some (k+1)=>match p with
   | .sl n v len=>match s.obj n v with
    |some (.arr ty _ _)=>if Nat.beq ty e then(if 0<=j/\j<(len:Int) then some (.dn n v j.toNat (k+1) 0) else none) else none
    |_=>none
   | .kT n v k' off len=>match s.obj n v with
    |some (.arr ty _ _)=>if Nat.beq ty e&&Nat.beq k' (k+1) then(if 0<=j/\j<(len:Int) then some (.dn n v (off+j.toNat) (k+1) 0) else none) else none
    |_=>none
   | .d (.sl k' es)=>if Nat.beq k' (k+1) then(if 0<=j then(match es[j.toNat]? with |some x=>some (.eS x 0)|none=>none) else none) else none
   |_=>none
  |_=>none
 |_,_=>none
def dq (len:Nat) (lo hi:Option P):Option (Nat×Nat):=
 match(match hi with |none=>some len |some (.d (.int _ j))=>if 0<=j/\j<=(len:Int) then some j.toNat else none |_=>none) with
 |none=>none
 |some h=>match lo with
  |none=>some (0,h)
  |some (.d (.int _ j))=>if 0<=j/\j<=(h:Int) then some (j.toNat,h) else none
  |_=>none
def nE (Q:Program) (s:S) (t:TypeId) (p:P) (lo:Option P):P:=
 match p with
 | .sl n v len=>match lo,s.obj n v,(cE Q t).bind (sz Q) with
  |some _,some (.arr ty true es),some (k+1)=>(match sz Q ty with |some k'=>if Nat.beq k' (k+1) then .d (.sl (k+1) (es.take len)) else p |none=>p)
  |_,_,_=>p
 |_=>p
def vg (Q:Program) (s:S) (t:TypeId) (p:P) (lo hi:Option P):Option P:=
 match cE Q t with
 |none=>none
 |some e=>match sz Q e with
  |some (k+1)=>match p with
   | .d (.sl k' es)=>if Nat.beq k' (k+1) then(match dq es.length lo hi with |some (l,h)=>some (.d (.sl k' ((es.take h).drop l)))|none=>none) else none
   | .sl n v len=>match s.obj n v,lo with
    |some (.arr _ _ _),none=>match dq len none hi with |some (_,h)=>some (.sl n v h)|none=>none
    |some (.arr ty _ _),some lo=>match sz Q ty with
     |some k'=>if Nat.beq k' (k+1) then(match dq len (some lo) hi with |some (l,h)=>some (.kT n v (k+1) l (h-l))|none=>none) else none
     |none=>none
    |_,_=>none
   | .kT n v k' off len=>match s.obj n v with
    |some (.arr _ _ _)=>if Nat.beq k' (k+1) then(match dq len lo hi with |some (l,h)=>some (.kT n v (k+1) (off+l) (h-l))|none=>none) else none
    |_=>none
   |_=>none
  |_=>none
def lj (Q:Program) (s:S) (t:TypeId) (p:P) (lo hi:Option P):Option P:=vg Q s t (nE Q s t p lo) lo hi
def Dk (s:S) (p:P):Option P:=
 match p with
 | .sl n v len | .kT n v _ _ len=>if s.live n v then some (.d (.int .i64 len)) else none
 | .d (.sl _ es)=>some (.d (.int .i64 es.length))
 |_=>none
def Dl (s:S) (p:P):Option P:=
 match p with
 | .mp n v=>match s.obj n v with |some (.map _ _ c _)=>some (.d (.int .i64 c))|_=>none
 |_=>none
def sR (s:S) (p q:P):Option Bool:=
 match p,q with
 | .ref n v _,.d .qP | .dn n v _ _ _,.d .qP | .d .qP,.ref n v _ | .d .qP,.dn n v _ _ _=>if s.live n v then some false else none
 | .eS _ _,.d .qP | .d .qP,.eS _ _=>some false
 |_,_=>none
def nP (Q:Program) (s:S) (op:BinOp) (t:TypeId) (x y:Operand) (p q:P):Option P:=
 match p.cw,q.cw with
 |some a,some b=>dM Q (do eqGuard op t x y a b;binOp op t a b)
 |_,_=>match Q.underlying t,sR s p q,op with
  |some (.pointer _),some r,.eql=>some (.d (.bool r))
  |some (.pointer _),some r,.neq=>some (.d (.bool (!r)))
  |_,_,_=>none
def cR:List P->Option (List Value)
 | []=>some []
 |p::r=>match p.cw,cR r with |some v,some vs=>some (v::vs)|_,_=>none
def P.FU:P->Option (List P)
 | .agg ps=>some ps
 | .d (.agg cs)=>some (cs.map .d)
 |_=>none
def FV (Q:Program) (t:TypeId) (f:Nat) (p:P):Option P:=
 match Q.underlying t,p.FU with
 |some (.struct fs),some ps=>match fs[f]? with
  |some fl=>zt Q fl.type ps fl.offset
  |none=>none
 |_,_=>none
def FW (Q:Program) (n:Nat) (e:TypeId) (p:P) (i:P):Option P:=
 match p.FU,i,sz Q e with
 |some ps,.d (.int _ j),some k=>if 0<=j/\j<(n:Int) then zt Q e ps (j.toNat*k) else none
 |_,_,_=>none
def cm (o:Option D) (z:D):D:=o.getD z
def ec (Q:Program) (s:S) (t:TypeId) (p i:P) (ok:Bool) (z:D):Option P:=
 match jt Q t,p,i with
 |some (kt,_),.mp n v,.d k=>match s.obj n v with
  |some (.map yE get _ _)=>if Nat.beq kt yE&&fB Q kt k then some (if ok then .da [.d ((get k).getD z),.d (.bool (get k).isSome)] else .d ((get k).getD z)) else none
  |some (.jA yE get _ _ _)=>if !ok&&Nat.beq kt yE&&fB Q kt k then some (.d ((get k).getD z)) else none
  |_=>none
 |some (kt,_),.d .rR,.d k=>if fB Q kt k then some (if ok then .da [.d z,.d (.bool false)] else .d z) else none
 |_,_,_=>none
def oe (s:S) (p:P):Option P:=
 match p with
 | .ref n v 0=>match s.obj n v with
  |some (.iter _ _ _ (some (k,x)))=>some (.da [.d k,.d x])
  |_=>none
 |_=>none
def dY (Q:Program) (t:TypeId):Option D:=
 match Q.info? t with
 |some i=>match i.zero with |some z=>D.sQ z |none=>none
 |none=>none
def Ia (fs:Array Field):Sem (Array (Nat×Nat)):=fs.mapM fun f=>do pure (f.offset,<-sizeOf f.type)
def Dm (pl:Array (Nat×Nat)):List P->List (Nat×P)->Option (List P)
 |ps,[]=>some ps
 |ps,(i,p)::r=>match pl[i]? with
  |some (off,k)=>if Nat.beq p.cells.length k&&Nat.ble (off+k) ps.length&&p.mD then Dm pl (splice ps off p.cells) r else none
  |none=>none
def vS (Q:Program) (t:TypeId) (parts:List (Nat×P)):Option P:=
 match Q.underlying t,dY Q t with
 |some (.struct fs),some z=>match av Q (Ia fs) with
  |some pl=>match Dm pl (z.cells.map .d) parts with
   |some qs=>some (H8 qs)
   |none=>none
  |none=>none
 |_,_=>none
def pv (Q:Program) (s:S) (o:Oper) (g:Option (Nat×Bool)):Option P:=
 match o.op with
 | .move x | .assign x=>some (s.eg g x)
 | .pick c a b=>match s.eg g c with | .d (.bool r)=>some (if r then s.eg g a else s.eg g b)|_=>none
 | .nilCheck x=>jL s (s.eg g x)
 | .binOp op t x y _=>nP Q s op t x y (s.eg g x) (s.eg g y)
 | .unOp op _ x=>match(s.eg g x).cw with |some v=>dM Q (Op.unary op v)|none=>none
 | .convert a b x=>match(s.eg g x).cw with |some v=>dM Q (Go.convert a b v)|none=>none
 | .load t x=>qi Q s t (s.eg g x)
 | .fieldAddr t x f=>ij Q s t f (s.eg g x)
 | .indexAddr t x i=>eW Q s t (s.eg g x) (s.eg g i)
 | .index t x i=>match Q.underlying t with
  |some (.array n e)=>FW Q n e (s.eg g x) (s.eg g i)
  |_=>match(s.eg g x).cw,(s.eg g i).cw with |some a,some b=>dM Q (Instr.index t a b)|_,_=>none
 | .field t x f=>FV Q t f (s.eg g x)
 | .extract x i=>match s.eg g x with | .da ps=>ps[i]? |_=>none
 | .lookup t x i ok=>match(jt Q t).bind fun y=>dY Q y.2 with
  |some z=>ec Q s t (s.eg g x) (s.eg g i) ok z
  |none=>none
 | .entry x=>oe s (s.eg g x)
 | .slice t x lo hi none=>match(s.eg g x).cw with
  |some (.string b)=>match(match lo with |none=>some none |some l=>(s.eg g l).cw.map some),(match hi with |none=>some none |some h=>(s.eg g h).cw.map some) with
   |some l,some h=>dM Q (Instr.sliceAt t (.string b) l h none)
   |_,_=>none
  |_=>lj Q s t (s.eg g x) (lo.map (s.eg g)) (hi.map (s.eg g))
 | .build t parts=>match cR (parts.toList.map fun x=>s.eg g x.2) with
  |some vs=>dM Q (Instr.build t ((parts.toList.map (·.1)).zip vs).toArray)
  |none=>vS Q t (parts.toList.map fun x=>(x.1,s.eg g x.2))
 | .makeFunc (.func f) first cy=>match first.toList with
  | []=>some (.fn f (cy.toList.map (s.eg g)))
  |_=>none
 | .call c=>match c.callee with
  | .builtin .len=>match c.args.toList with
   | [x]=>match(s.eg g x).cw with
    |some v=>dM Q (Builtin.len_ c.argTypes o.type #[v])
    |none=>match(c.argTypes[0]?).bind (cE Q) with
     |some _=>Dk s (s.eg g x)
     |none=>match(c.argTypes[0]?).bind (jt Q) with |some _=>Dl s (s.eg g x)|none=>none
   |_=>none
  | .builtin .min=>match cR (c.args.toList.map (s.eg g)) with |some vs=>dM Q (Builtin.min_ c.argTypes o.type vs.toArray)|none=>none
  | .builtin .max=>match cR (c.args.toList.map (s.eg g)) with |some vs=>dM Q (Builtin.max_ c.argTypes o.type vs.toArray)|none=>none
  |_=>none
 |_=>none
end Pi
