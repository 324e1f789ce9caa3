/- The text PiCode2. -/
import Derived.Test.YtfelfooeclnbiaaPiDraw
namespace Pi
open Go
structure rS where
 kp:FuncId->Nat->Option (List Nat×List Nat)
 xs:List Nat
 X:CF
instance:CoeFun rS λ_=>FuncId->Nat->Option (List Nat×List Nat):=⟨rS.kp⟩
inductive PX where
 |normal
 |exit (id:Nat)
 |ret
def Code.qC:Code->Nat
 | .region id _ _=>id
 | .seq a _=>Code.qC a
 | .cond _ a _=>Code.qC a
 | .block _ c | .loop c | .scope c=>Code.qC c
 |_=>0
def fq(keep:Option (List Nat×List Nat))(s:S):Option S:=match keep with |some l=>canon l.1 s |none=>some s
def hJ(keep:Option (List Nat×List Nat))(s:S):Option S:=match keep with |some l=>canon l.2 s |none=>some s
def dk(body:S->Option (PX×S))(keep:Option (List Nat×List Nat)):Nat->S->Option (PX×S)
 |0,_=>none
 |k+1,s=>match fq keep s with
  |none=>none
  |some s0=>match body s0 with
   |some (.normal,s1)=>dk body keep k s1
   |some (e,s1)=>(match hJ keep s1 with |some s2=>some (e,s2)|none=>none)
   |none=>none
noncomputable def aP(Q:Program)(cf:CF)(kp:Nat->Option (List Nat×List Nat))(lf:Nat):Code->S->Option (PX×S)
 | .skip,s=>some (.normal,s)
 | .label _,s=>some (.normal,s)
 | .region _ ops draw,s=>(match(if draw then dE Q cf ops.toList s else bA Q cf ops.toList ops.toList s) with |some s1=>some (.normal,s1)|none=>none)
 | .seq a b,s=>match aP Q cf kp lf a s with
  |some (.normal,s1)=>aP Q cf kp lf b s1
  |r=>r
 | .cond c x y,s=>match s.ev c with
  | .d (.bool b)=>if b then aP Q cf kp lf x s else aP Q cf kp lf y s
  |_=>none
 | .block id c,s=>match aP Q cf kp lf c s with
  |some (.exit tr,s1)=>if Nat.beq tr id then some (.normal,s1) else some (.exit tr,s1)
  |r=>r
 | .loop c,s=>dk (aP Q cf kp lf c) (kp (Code.qC c)) lf s
 | .scope c,s=>aP Q cf kp lf c s
 | .exit id,s=>some (.exit id,s)
 | .ret,s=>some (.ret,s)
 |_,_=>none
def l0(Q:Program)(s:S):ResultVar->Option P
 | .tmp t=>some (((lk s.tm t).getD .bad).under none)
 | .cell t ty=>ji Q s ty (((lk s.tm t).getD .bad).under none)
def cD(Q:Program)(s:S):List ResultVar->Option (List P)
 | []=>some []
 |r::rs=>match l0 Q s r,cD Q s rs with |some p,some ps=>some (p::ps)|_,_=>none
def wb:List P->P
 | [p]=>p
 |qs=> .dX qs
def eo:Nat->List P->List (Nat×P)
 |_,[]=>[]
 |i,p::ps=>(i,p)::eo (i+1) ps
def r8(Q:Program)(t:TypeId)(p:P):P:=
 match p with
 | .d .dm=>(match bc Q t with
  |some e=>(match sz Q e with |some (k+1)=> .d (.sl (k+1) [])|_=> .d .dm)
  |none=> .d .dm)
 |p=>p
def eu(Q:Program):List TypeId->List P->List P
 |t::ts,p::ps=>r8 Q t p::eu Q ts ps
 |_,ps=>ps
def hS(keep:Option (List Nat×List Nat))(Q:Program)(ts:List TypeId)(ps:List P):List P:=match keep with |some _=>ps |none=>eu Q ts ps
def pg(R:List (Nat×En)):Nat->Nat->List Nat
 |_,0=>[]
 |i,k+1=>match ml R i with
  |some (n,e)=>(match e.obj with | .gone=>pg R (i+1) k |_=>n::pg R (i+1) k)
  |none=>pg R (i+1) k
def wc(R:List (Nat×En))(m:Nat)(p:P):List Nat:=pg R 0 m++cV R (reach R 1000 (p::fC R R) [])
def jZ(Q:Program)(s:S)(ts:List TypeId):List P->Option (S×List P)
 | []=>some (s,[])
 |p::ps=>match eG Q s (ts.headD 0) p with
  |none=>none
  |some (s1,q)=>match jZ Q s1 ts.tail ps with
   |some (s2,qs)=>some (s2,q::qs)
   |none=>none
def finish(Q:Program)(m:Nat)(Cb:List TypeId)(qs:List P)(s:S):Option (P×List (Nat×En)):=
 match jZ Q s Cb qs with
 |none=>none
 |some (s0,EY)=>match aS s0 3000000 EY (Cb.map (bc Q)) with
 |none=>none
 |some (s1,Ea)=>
  let ns:=wc s1.rg m (wb Ea)
  if dp ns then(match sub s1.rg (toPos s1.rg ns) false 0 ns with
   |some R=>some (od (toPos s1.rg ns) (wb Ea),R)
   |none=>none) else none
noncomputable def cW(Q:Program)(kp:rS)(lf:Nat):Nat->CF
 |0=>λ_ _ _=>none
 |k+1=>λf ps R=>match Q.funcs[f]? with
  |none=>none
  |some fn=>if dQ f kp.xs then kp.X f ps R else match fn.body with
   |none=>none
   |some c=>if fn.name== "runtime.NumGoroutine" then none else
    match aP Q (cW Q kp lf k) (kp f) lf c ⟨fn.ntmps,eo 0 (hS (kp f 999999) Q fn.params.toList ps),R⟩ with
    |some (.exit _,_)=>none
    |some (_,s1)=>(match cD Q s1 fn.results.toList with
     |some qs=>finish Q R.length fn.resultTypes.toList qs s1
     |none=>none)
    |none=>none
end Pi
