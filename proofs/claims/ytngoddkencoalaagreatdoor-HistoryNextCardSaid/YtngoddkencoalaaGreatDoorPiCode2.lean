/- The text PiCode2. -/
import Derived.Test.YtngoddkencoalaaGreatDoorPiDraw
namespace Pi
open Go
structure pZ where
 kp:FuncId->Nat->Option (List Nat×List Nat)
 xs:List Nat
 X:CF
instance:CoeFun pZ fun _=>FuncId->Nat->Option (List Nat×List Nat):=⟨pZ.kp⟩
inductive PX where
 |normal
 |exit (id:Nat)
 |ret
def Code.rX:Code->Nat
 | .region id _ _=>id
 | .seq a _=>Code.rX a
 | .cond _ a _=>Code.rX a
 | .block _ c | .loop c | .scope c=>Code.rX c
 |_=>0
def cr (keep:Option (List Nat×List Nat)) (s:S):Option S:=match keep with |some l=>canon l.1 s |none=>some s
def dA (keep:Option (List Nat×List Nat)) (s:S):Option S:=match keep with |some l=>canon l.2 s |none=>some s
def iy (body:S->Option (PX×S)) (keep:Option (List Nat×List Nat)):Nat->S->Option (PX×S)
 |0,_=>none
 |k+1,s=>match cr keep s with
  |none=>none
  |some s0=>match body s0 with
   |some (.normal,s1)=>iy body keep k s1
   |some (e,s1)=>(match dA keep s1 with |some s2=>some (e,s2)|none=>none)
   |none=>none
noncomputable def bz (Q:Program) (cf:CF) (kp:Nat->Option (List Nat×List Nat)) (lf:Nat):Code->S->Option (PX×S)
 | .skip,s=>some (.normal,s)
 | .label _,s=>some (.normal,s)
 | .region _ ops draw,s=>(match(if draw then jd Q cf ops.toList s else dv Q cf ops.toList ops.toList s) with |some s1=>some (.normal,s1)|none=>none)
 | .seq a b,s=>match bz Q cf kp lf a s with
  |some (.normal,s1)=>bz Q cf kp lf b s1
  |r=>r
 | .cond c x y,s=>match s.ev c with
  | .d (.bool b)=>if b then bz Q cf kp lf x s else bz Q cf kp lf y s
  |_=>none
 | .block id c,s=>match bz Q cf kp lf c s with
  |some (.exit o7,s1)=>if Nat.beq o7 id then some (.normal,s1) else some (.exit o7,s1)
  |r=>r
 | .loop c,s=>iy (bz Q cf kp lf c) (kp (Code.rX c)) lf s
 | .scope c,s=>bz Q cf kp lf c s
 | .exit id,s=>some (.exit id,s)
 | .ret,s=>some (.ret,s)
 |_,_=>none
def sg (Q:Program) (s:S):ResultVar->Option P
 | .tmp t=>some (((lk s.tm t).getD .bad).under none)
 | .cell t ty=>qG Q s ty (((lk s.tm t).getD .bad).under none)
def da (Q:Program) (s:S):List ResultVar->Option (List P)
 | []=>some []
 |r::rs=>match sg Q s r,da Q s rs with |some p,some ps=>some (p::ps)|_,_=>none
def OP:List P->P
 | [p]=>p
 |qs=> .cV qs
def fD:Nat->List P->List (Nat×P)
 |_,[]=>[]
 |i,p::ps=>(i,p)::fD (i+1) ps
def Hx (Q:Program) (t:TypeId) (p:P):P:=
 match p with
 | .d .fQ=>(match cH Q t with
  |some e=>(match sz Q e with |some (k+1)=> .d (.sl (k+1) [])|_=> .d .fQ)
  |none=> .d .fQ)
 |p=>p
def gS (Q:Program):List TypeId->List P->List P
 |t::ts,p::ps=>Hx Q t p::gS Q ts ps
 |_,ps=>ps
def kM (keep:Option (List Nat×List Nat)) (Q:Program) (ts:List TypeId) (ps:List P):List P:=match keep with |some _=>ps |none=>gS Q ts ps
def B2 (R:List (Nat×En)):Nat->Nat->List Nat
 |_,0=>[]
 |i,k+1=>match wS R i with
  |some (n,e)=>(match e.obj with | .gone=>B2 R (i+1) k |_=>n::B2 R (i+1) k)
  |none=>B2 R (i+1) k
def OQ (R:List (Nat×En)) (m:Nat) (p:P):List Nat:=B2 R 0 m++c8 R (reach R 1000 (p::fb R R) [])
def sj (Q:Program) (s:S) (ts:List TypeId):List P->Option (S×List P)
 | []=>some (s,[])
 |p::ps=>match kH Q s (ts.headD 0) p with
  |none=>none
  |some (s1,q)=>match sj Q s1 ts.tail ps with
   |some (s2,qs)=>some (s2,q::qs)
   |none=>none
def finish (Q:Program) (m:Nat) (rts:List TypeId) (qs:List P) (s:S):Option (P×List (Nat×En)):=
 match sj Q s rts qs with
 |none=>none
 |some (s0,qs0)=>match cg s0 3000000 qs0 (rts.map (cH Q)) with
 |none=>none
 |some (s1,qs1)=>
  let ns:=OQ s1.rg m (OP qs1)
  if dU ns then(match sub s1.rg (toPos s1.rg ns) false 0 ns with
   |some R=>some (Av (toPos s1.rg ns) (OP qs1),R)
   |none=>none) else none
noncomputable def fc (Q:Program) (kp:pZ) (lf:Nat):Nat->CF
 |0=>fun _ _ _=>none
 |k+1=>fun f ps R=>match Q.funcs[f]? with
  |none=>none
  |some fn=>if gR f kp.xs then kp.X f ps R else match fn.body with
   |none=>none
   |some c=>if fn.name== "runtime.NumGoroutine" then none else
    match bz Q (fc Q kp lf k) (kp f) lf c ⟨fn.ntmps,fD 0 (kM (kp f 999999) Q fn.params.toList ps),R⟩ with
    |some (.exit _,_)=>none
    |some (_,s1)=>(match da Q s1 fn.results.toList with
     |some qs=>finish Q R.length fn.resultTypes.toList qs s1
     |none=>none)
    |none=>none
end Pi
