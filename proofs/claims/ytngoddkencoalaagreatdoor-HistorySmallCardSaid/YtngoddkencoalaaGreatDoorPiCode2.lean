/- The text PiCode2. -/
import Derived.Test.YtngoddkencoalaaGreatDoorPiDraw
namespace Pi
open Go
structure qD where
 kp:FuncId->Nat->Option (List Nat×List Nat)
 xs:List Nat
 X:CF
instance:CoeFun qD λ_=>FuncId->Nat->Option (List Nat×List Nat):=⟨qD.kp⟩
inductive PX where
 |normal
 |exit (id:Nat)
 |ret
def Code.sV:Code->Nat
 | .region id _ _=>id
 | .seq a _=>Code.sV a
 | .cond _ a _=>Code.sV a
 | .block _ c | .loop c | .scope c=>Code.sV c
 |_=>0
def cA(keep:Option (List Nat×List Nat))(s:S):Option S:=match keep with |some l=>canon l.1 s |none=>some s
def dJ(keep:Option (List Nat×List Nat))(s:S):Option S:=match keep with |some l=>canon l.2 s |none=>some s
def iM(body:S->Option (PX×S))(keep:Option (List Nat×List Nat)):Nat->S->Option (PX×S)
 |0,_=>none
 |k+1,s=>match cA keep s with
  |none=>none
  |some s0=>match body s0 with
   |some (.normal,s1)=>iM body keep k s1
   |some (e,s1)=>(match dJ keep s1 with |some s2=>some (e,s2)|none=>none)
   |none=>none
noncomputable def bE(Q:Program)(cf:CF)(kp:Nat->Option (List Nat×List Nat))(lf:Nat):Code->S->Option (PX×S)
 | .skip,s=>some (.normal,s)
 | .label _,s=>some (.normal,s)
 | .region _ ops draw,s=>(match(if draw then jq Q cf ops.toList s else dE Q cf ops.toList ops.toList s) with |some s1=>some (.normal,s1)|none=>none)
 | .seq a b,s=>match bE Q cf kp lf a s with
  |some (.normal,s1)=>bE Q cf kp lf b s1
  |r=>r
 | .cond c x y,s=>match s.ev c with
  | .d (.bool b)=>if b then bE Q cf kp lf x s else bE Q cf kp lf y s
  |_=>none
 | .block id c,s=>match bE Q cf kp lf c s with
  |some (.exit pG,s1)=>if Nat.beq pG id then some (.normal,s1) else some (.exit pG,s1)
  |r=>r
 | .loop c,s=>iM (bE Q cf kp lf c) (kp (Code.sV c)) lf s
 | .scope c,s=>bE Q cf kp lf c s
 | .exit id,s=>some (.exit id,s)
 | .ret,s=>some (.ret,s)
 |_,_=>none
def tA(Q:Program)(s:S):ResultVar->Option P
 | .tmp t=>some (((lk s.tm t).getD .bad).under none)
 | .cell t ty=>rz Q s ty (((lk s.tm t).getD .bad).under none)
def dn(Q:Program)(s:S):List ResultVar->Option (List P)
 | []=>some []
 |r::rs=>match tA Q s r,dn Q s rs with |some p,some ps=>some (p::ps)|_,_=>none
def PI:List P->P
 | [p]=>p
 |qs=> .cT qs
def fK:Nat->List P->List (Nat×P)
 |_,[]=>[]
 |i,p::ps=>(i,p)::fK (i+1) ps
def Im(Q:Program)(t:TypeId)(p:P):P:=
 match p with
 | .d .fX=>(match cQ Q t with
  |some e=>(match sz Q e with |some (k+1)=> .d (.sl (k+1) [])|_=> .d .fX)
  |none=> .d .fX)
 |p=>p
def gZ(Q:Program):List TypeId->List P->List P
 |t::ts,p::ps=>Im Q t p::gZ Q ts ps
 |_,ps=>ps
def lj(keep:Option (List Nat×List Nat))(Q:Program)(ts:List TypeId)(ps:List P):List P:=match keep with |some _=>ps |none=>gZ Q ts ps
def CH(R:List (Nat×En)):Nat->Nat->List Nat
 |_,0=>[]
 |i,k+1=>match xM R i with
  |some (n,e)=>(match e.obj with | .gone=>CH R (i+1) k |_=>n::CH R (i+1) k)
  |none=>CH R (i+1) k
def PJ(R:List (Nat×En))(m:Nat)(p:P):List Nat:=CH R 0 m++dm R (reach R 1000 (p::fm R R) [])
def tB(Q:Program)(s:S)(ts:List TypeId):List P->Option (S×List P)
 | []=>some (s,[])
 |p::ps=>match k9 Q s (ts.headD 0) p with
  |none=>none
  |some (s1,q)=>match tB Q s1 ts.tail ps with
   |some (s2,qs)=>some (s2,q::qs)
   |none=>none
def finish(Q:Program)(m:Nat)(rts:List TypeId)(qs:List P)(s:S):Option (P×List (Nat×En)):=
 match tB Q s rts qs with
 |none=>none
 |some (s0,qs0)=>match cv s0 3000000 qs0 (rts.map (cQ Q)) with
 |none=>none
 |some (s1,qs1)=>
  let ns:=PJ s1.rg m (PI qs1)
  if ep ns then(match sub s1.rg (toPos s1.rg ns) false 0 ns with
   |some R=>some (Bj (toPos s1.rg ns) (PI qs1),R)
   |none=>none) else none
noncomputable def fo(Q:Program)(kp:qD)(lf:Nat):Nat->CF
 |0=>λ_ _ _=>none
 |k+1=>λf ps R=>match Q.funcs[f]? with
  |none=>none
  |some fn=>if gY f kp.xs then kp.X f ps R else match fn.body with
   |none=>none
   |some c=>if fn.name== "runtime.NumGoroutine" then none else
    match bE Q (fo Q kp lf k) (kp f) lf c ⟨fn.ntmps,fK 0 (lj (kp f 999999) Q fn.params.toList ps),R⟩ with
    |some (.exit _,_)=>none
    |some (_,s1)=>(match dn Q s1 fn.results.toList with
     |some qs=>finish Q R.length fn.resultTypes.toList qs s1
     |none=>none)
    |none=>none
end Pi
