/- The text PiCode2. -/
import Derived.Test.YtfelfooeclnbiaaPiDraw
namespace Pi
open Go
structure kX where
 kp:FuncId->Nat->Option (List Nat×List Nat)
 xs:List Nat
 X:CF
instance:CoeFun kX λ_=>FuncId->Nat->Option (List Nat×List Nat):=⟨kX.kp⟩
inductive PX where
 |normal
 |exit (id:Nat)
 |ret
def Code.qE:Code->Nat
 | .region id _ _=>id
 | .seq a _=>Code.qE a
 | .cond _ a _=>Code.qE a
 | .block _ c | .loop c | .scope c=>Code.qE c
 |_=>0
def eZ(keep:Option (List Nat×List Nat))(s:S):Option S:=match keep with |some l=>canon l.1 s |none=>some s
def gE(keep:Option (List Nat×List Nat))(s:S):Option S:=match keep with |some l=>canon l.2 s |none=>some s
def c8(body:S->Option (PX×S))(keep:Option (List Nat×List Nat)):Nat->S->Option (PX×S)
 |0,_=>none
 |k+1,s=>match eZ keep s with
  |none=>none
  |some s0=>match body s0 with
   |some (.normal,s1)=>c8 body keep k s1
   |some (e,s1)=>(match gE keep s1 with |some s2=>some (e,s2)|none=>none)
   |none=>none
noncomputable def aP(Q:Program)(cf:CF)(kp:Nat->Option (List Nat×List Nat))(lf:Nat):Code->S->Option (PX×S)
 | .skip,s=>some (.normal,s)
 | .label _,s=>some (.normal,s)
 | .region _ ops draw,s=>(match(if draw then dz Q cf ops.toList s else bp Q cf ops.toList ops.toList s) with |some s1=>some (.normal,s1)|none=>none)
 | .seq a b,s=>match aP Q cf kp lf a s with
  |some (.normal,s1)=>aP Q cf kp lf b s1
  |r=>r
 | .cond c x y,s=>match s.ev c with
  | .d (.bool b)=>if b then aP Q cf kp lf x s else aP Q cf kp lf y s
  |_=>none
 | .block id c,s=>match aP Q cf kp lf c s with
  |some (.exit r0,s1)=>if Nat.beq r0 id then some (.normal,s1) else some (.exit r0,s1)
  |r=>r
 | .loop c,s=>c8 (aP Q cf kp lf c) (kp (Code.qE c)) lf s
 | .scope c,s=>aP Q cf kp lf c s
 | .exit id,s=>some (.exit id,s)
 | .ret,s=>some (.ret,s)
 |_,_=>none
def lh(Q:Program)(s:S):ResultVar->Option P
 | .tmp t=>some (((lk s.tm t).getD .bad).under none)
 | .cell t ty=>iu Q s ty (((lk s.tm t).getD .bad).under none)
def cu(Q:Program)(s:S):List ResultVar->Option (List P)
 | []=>some []
 |r::rs=>match lh Q s r,cu Q s rs with |some p,some ps=>some (p::ps)|_,_=>none
def uE:List P->P
 | [p]=>p
 |qs=> .dR qs
def dU:Nat->List P->List (Nat×P)
 |_,[]=>[]
 |i,p::ps=>(i,p)::dU (i+1) ps
def qO(Q:Program)(t:TypeId)(p:P):P:=
 match p with
 | .d .cV=>(match aX Q t with
  |some e=>(match sz Q e with |some (k+1)=> .d (.sl (k+1) [])|_=> .d .cV)
  |none=> .d .cV)
 |p=>p
def dV(Q:Program):List TypeId->List P->List P
 |t::ts,p::ps=>qO Q t p::dV Q ts ps
 |_,ps=>ps
def gF(keep:Option (List Nat×List Nat))(Q:Program)(ts:List TypeId)(ps:List P):List P:=match keep with |some _=>ps |none=>dV Q ts ps
def od(R:List (Nat×En)):Nat->Nat->List Nat
 |_,0=>[]
 |i,k+1=>match lB R i with
  |some (n,e)=>(match e.obj with | .gone=>od R (i+1) k |_=>n::od R (i+1) k)
  |none=>od R (i+1) k
def uF(R:List (Nat×En))(m:Nat)(p:P):List Nat:=od R 0 m++cO R (reach R 1000 (p::fg R R) [])
def jn(Q:Program)(s:S)(ts:List TypeId):List P->Option (S×List P)
 | []=>some (s,[])
 |p::ps=>match ek Q s (ts.headD 0) p with
  |none=>none
  |some (s1,q)=>match jn Q s1 ts.tail ps with
   |some (s2,qs)=>some (s2,q::qs)
   |none=>none
def finish(Q:Program)(m:Nat)(zL:List TypeId)(qs:List P)(s:S):Option (P×List (Nat×En)):=
 match jn Q s zL qs with
 |none=>none
 |some (s0,BH)=>match aR s0 3000000 BH (zL.map (aX Q)) with
 |none=>none
 |some (s1,Bg)=>
  let ns:=uF s1.rg m (uE Bg)
  if df ns then(match sub s1.rg (toPos s1.rg ns) false 0 ns with
   |some R=>some (np (toPos s1.rg ns) (uE Bg),R)
   |none=>none) else none
noncomputable def dh(Q:Program)(kp:kX)(lf:Nat):Nat->CF
 |0=>λ_ _ _=>none
 |k+1=>λf ps R=>match Q.funcs[f]? with
  |none=>none
  |some fn=>if dJ f kp.xs then kp.X f ps R else match fn.body with
   |none=>none
   |some c=>if fn.name== "runtime.NumGoroutine" then none else
    match aP Q (dh Q kp lf k) (kp f) lf c ⟨fn.ntmps,dU 0 (gF (kp f 999999) Q fn.params.toList ps),R⟩ with
    |some (.exit _,_)=>none
    |some (_,s1)=>(match cu Q s1 fn.results.toList with
     |some qs=>finish Q R.length fn.resultTypes.toList qs s1
     |none=>none)
    |none=>none
end Pi
