/- The text PiCode2. -/
import Derived.Test.YtfelfooeclnbiaaPiDraw
namespace Pi
open Go
structure rT where
 kp:FuncId->Nat->Option (List Nat×List Nat)
 xs:List Nat
 X:CF
instance:CoeFun rT λ_=>FuncId->Nat->Option (List Nat×List Nat):=⟨rT.kp⟩
inductive PX where
 |normal
 |exit (id:Nat)
 |ret
def Code.rD:Code->Nat
 | .region id _ _=>id
 | .seq a _=>Code.rD a
 | .cond _ a _=>Code.rD a
 | .block _ c | .loop c | .scope c=>Code.rD c
 |_=>0
def fm(keep:Option (List Nat×List Nat))(s:S):Option S:=match keep with |some l=>canon l.1 s |none=>some s
def gW(keep:Option (List Nat×List Nat))(s:S):Option S:=match keep with |some l=>canon l.2 s |none=>some s
def dp(body:S->Option (PX×S))(keep:Option (List Nat×List Nat)):Nat->S->Option (PX×S)
 |0,_=>none
 |k+1,s=>match fm keep s with
  |none=>none
  |some s0=>match body s0 with
   |some (.normal,s1)=>dp body keep k s1
   |some (e,s1)=>(match gW keep s1 with |some s2=>some (e,s2)|none=>none)
   |none=>none
noncomputable def aR(Q:Program)(cf:CF)(kp:Nat->Option (List Nat×List Nat))(lf:Nat):Code->S->Option (PX×S)
 | .skip,s=>some (.normal,s)
 | .label _,s=>some (.normal,s)
 | .region _ ops draw,s=>(match(if draw then dH Q cf ops.toList s else bC Q cf ops.toList ops.toList s) with |some s1=>some (.normal,s1)|none=>none)
 | .seq a b,s=>match aR Q cf kp lf a s with
  |some (.normal,s1)=>aR Q cf kp lf b s1
  |r=>r
 | .cond c x y,s=>match s.ev c with
  | .d (.bool b)=>if b then aR Q cf kp lf x s else aR Q cf kp lf y s
  |_=>none
 | .block id c,s=>match aR Q cf kp lf c s with
  |some (.exit tc,s1)=>if Nat.beq tc id then some (.normal,s1) else some (.exit tc,s1)
  |r=>r
 | .loop c,s=>dp (aR Q cf kp lf c) (kp (Code.rD c)) lf s
 | .scope c,s=>aR Q cf kp lf c s
 | .exit id,s=>some (.exit id,s)
 | .ret,s=>some (.ret,s)
 |_,_=>none
def lU(Q:Program)(s:S):ResultVar->Option P
 | .tmp t=>some (((lk s.tm t).getD .bad).under none)
 | .cell t ty=>iY Q s ty (((lk s.tm t).getD .bad).under none)
def cH(Q:Program)(s:S):List ResultVar->Option (List P)
 | []=>some []
 |r::rs=>match lU Q s r,cH Q s rs with |some p,some ps=>some (p::ps)|_,_=>none
def wa:List P->P
 | [p]=>p
 |qs=> .dW qs
def ei:Nat->List P->List (Nat×P)
 |_,[]=>[]
 |i,p::ps=>(i,p)::ei (i+1) ps
def rU(Q:Program)(t:TypeId)(p:P):P:=
 match p with
 | .d .dq=>(match bd Q t with
  |some e=>(match sz Q e with |some (k+1)=> .d (.sl (k+1) [])|_=> .d .dq)
  |none=> .d .dq)
 |p=>p
def ek(Q:Program):List TypeId->List P->List P
 |t::ts,p::ps=>rU Q t p::ek Q ts ps
 |_,ps=>ps
def gX(keep:Option (List Nat×List Nat))(Q:Program)(ts:List TypeId)(ps:List P):List P:=match keep with |some _=>ps |none=>ek Q ts ps
def o6(R:List (Nat×En)):Nat->Nat->List Nat
 |_,0=>[]
 |i,k+1=>match ma R i with
  |some (n,e)=>(match e.obj with | .gone=>o6 R (i+1) k |_=>n::o6 R (i+1) k)
  |none=>o6 R (i+1) k
def wb(R:List (Nat×En))(m:Nat)(p:P):List Nat:=o6 R 0 m++c6 R (reach R 1000 (p::fB R R) [])
def jQ(Q:Program)(s:S)(ts:List TypeId):List P->Option (S×List P)
 | []=>some (s,[])
 |p::ps=>match eH Q s (ts.headD 0) p with
  |none=>none
  |some (s1,q)=>match jQ Q s1 ts.tail ps with
   |some (s2,qs)=>some (s2,q::qs)
   |none=>none
def finish(Q:Program)(m:Nat)(BN:List TypeId)(qs:List P)(s:S):Option (P×List (Nat×En)):=
 match jQ Q s BN qs with
 |none=>none
 |some (s0,Ei)=>match aT s0 3000000 Ei (BN.map (bd Q)) with
 |none=>none
 |some (s1,Dw)=>
  let ns:=wb s1.rg m (wa Dw)
  if du ns then(match sub s1.rg (toPos s1.rg ns) false 0 ns with
   |some R=>some (n6 (toPos s1.rg ns) (wa Dw),R)
   |none=>none) else none
noncomputable def dN(Q:Program)(kp:rT)(lf:Nat):Nat->CF
 |0=>λ_ _ _=>none
 |k+1=>λf ps R=>match Q.funcs[f]? with
  |none=>none
  |some fn=>if dR f kp.xs then kp.X f ps R else match fn.body with
   |none=>none
   |some c=>if fn.name== "runtime.NumGoroutine" then none else
    match aR Q (dN Q kp lf k) (kp f) lf c ⟨fn.ntmps,ei 0 (gX (kp f 999999) Q fn.params.toList ps),R⟩ with
    |some (.exit _,_)=>none
    |some (_,s1)=>(match cH Q s1 fn.results.toList with
     |some qs=>finish Q R.length fn.resultTypes.toList qs s1
     |none=>none)
    |none=>none
end Pi
