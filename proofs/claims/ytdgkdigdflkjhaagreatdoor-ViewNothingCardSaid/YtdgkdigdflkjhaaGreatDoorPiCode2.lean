/- The text PiCode2. -/
import Derived.Test.YtdgkdigdflkjhaaGreatDoorPiDraw
namespace Pi
open Go
structure rq where
 kp:FuncId->Nat->Option (List Nat×List Nat)
 xs:List Nat
 X:CF
instance:CoeFun rq λ_=>FuncId->Nat->Option (List Nat×List Nat):=⟨rq.kp⟩
inductive PX where
 |normal
 |exit (id:Nat)
 |ret
def Code.s5:Code->Nat
 | .region id _ _=>id
 | .seq a _=>Code.s5 a
 | .cond _ a _=>Code.s5 a
 | .block _ c | .loop c | .scope c=>Code.s5 c
 |_=>0
def cG(keep:Option (List Nat×List Nat))(s:S):=match keep with |some l=>canon l.1 s |none=>some s
def dL(keep:Option (List Nat×List Nat))(s:S):=match keep with |some l=>canon l.2 s |none=>some s
def jc(body:S->Option (PX×S))(keep:Option (List Nat×List Nat)):Nat->S->Option (PX×S)
 |0,_=>none
 |k+1,s=>match cG keep s with
  |none=>none
  |some s0=>match body s0 with
   |some (.normal,s1)=>jc body keep k s1
   |some (e,s1)=>(match dL keep s1 with |some s2=>some (e,s2)|none=>none)
   |none=>none
noncomputable def bU(Q:Program)(cf:CF)(kp:Nat->Option (List Nat×List Nat))(lf:Nat):Code->S->Option (PX×S)
 | .skip,s=>some (.normal,s)
 | .label _,s=>some (.normal,s)
 | .region _ ops draw,s=>(match(if draw then jC Q cf ops.toList s else dF Q cf ops.toList ops.toList s) with |some s1=>some (.normal,s1)|none=>none)
 | .seq a b,s=>match bU Q cf kp lf a s with
  |some (.normal,s1)=>bU Q cf kp lf b s1
  |r=>r
 | .cond c x y,s=>match s.ev c with
  | .d (.bool b)=>if b then bU Q cf kp lf x s else bU Q cf kp lf y s
  |_=>none
 | .block id c,s=>match bU Q cf kp lf c s with
  |some (.exit qA,s1)=>if Nat.beq qA id then some (.normal,s1) else some (.exit qA,s1)
  |r=>r
 | .loop c,s=>jc (bU Q cf kp lf c) (kp (Code.s5 c)) lf s
 | .scope c,s=>bU Q cf kp lf c s
 | .exit id,s=>some (.exit id,s)
 | .ret,s=>some (.ret,s)
 |_,_=>none
def yC(Q:Program)(s:S):ResultVar->Option P
 | .tmp t=>some (((lk s.tm t).getD .bad).under none)
 | .cell t ty=>sf Q s ty (((lk s.tm t).getD .bad).under none)
def dv(Q:Program)(s:S):List ResultVar->Option (List P)
 | []=>some []
 |r::rs=>match yC Q s r,dv Q s rs with |some p,some ps=>some (p::ps)|_,_=>none
def Ty:List P->P
 | [p]=>p
 |qs=> .dz qs
def fT:Nat->List P->List (Nat×P)
 |_,[]=>[]
 |i,p::ps=>(i,p)::fT (i+1) ps
def Ln(Q:Program)(t:TypeId)(p:P):P:=
 match p with
 | .d .e9=>(match cX Q t with
  |some e=>(match sz Q e with |some (k+1)=> .d (.sl (k+1) [])|_=> .d .e9)
  |none=> .d .e9)
 |p=>p
def kO(Q:Program):List TypeId->List P->List P
 |t::ts,p::ps=>Ln Q t p::kO Q ts ps
 |_,ps=>ps
def lE(keep:Option (List Nat×List Nat))(Q:Program)(ts:List TypeId)(ps:List P):=match keep with |some _=>ps |none=>kO Q ts ps
def EY(R:List (Nat×En)):Nat->Nat->List Nat
 |_,0=>[]
 |i,k+1=>match zt R i with
  |some (n,e)=>(match e.obj with | .gone=>EY R (i+1) k |_=>n::EY R (i+1) k)
  |none=>EY R (i+1) k
def Tz R m p:=EY R 0 m++du R (reach R 1000 (p::fu R R) [])
def uu(Q:Program)(s:S)(ts:List TypeId):List P->Option (S×List P)
 | []=>some (s,[])
 |p::ps=>match lz Q s (ts.headD 0) p with
  |none=>none
  |some (s1,q)=>match uu Q s1 ts.tail ps with
   |some (s2,qs)=>some (s2,q::qs)
   |none=>none
def finish(Q:Program)(m:Nat)(rts:List TypeId)(qs:List P)(s:S):Option (P×List (Nat×En)):=
 match uu Q s rts qs with
 |none=>none
 |some (s0,qs0)=>match cw s0 3000000 qs0 (rts.map (cX Q)) with
 |none=>none
 |some (s1,qs1)=>
  let ns:=Tz s1.rg m (Ty qs1)
  if ez ns then(match sub s1.rg (toPos s1.rg ns) false 0 ns with
   |some R=>some (Df (toPos s1.rg ns) (Ty qs1),R)
   |none=>none) else none
noncomputable def fj(Q:Program)(kp:rq)(lf:Nat):Nat->CF
 |0=>λ_ _ _=>none
 |k+1=>λf ps R=>match Q.funcs[f]? with
  |none=>none
  |some fn=>if iw f kp.xs then kp.X f ps R else match fn.body with
   |none=>none
   |some c=>if fn.name== "runtime.NumGoroutine" then none else
    match bU Q (fj Q kp lf k) (kp f) lf c ⟨fn.ntmps,fT 0 (lE (kp f 999999) Q fn.params.toList ps),R⟩ with
    |some (.exit _,_)=>none
    |some (_,s1)=>(match dv Q s1 fn.results.toList with
     |some qs=>finish Q R.length fn.resultTypes.toList qs s1
     |none=>none)
    |none=>none
end Pi
