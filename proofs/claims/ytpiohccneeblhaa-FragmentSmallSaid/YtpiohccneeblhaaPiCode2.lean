/- The text PiCode2. -/
import Derived.Test.YtpiohccneeblhaaPiDraw
namespace Pi
open Go
structure tq where
 kp:FuncId->Nat->Option (List Nat×List Nat)
 xs:List Nat
 X:CF
instance:CoeFun tq λ_=>FuncId->Nat->Option (List Nat×List Nat):=⟨tq.kp⟩
inductive PX where
 |normal
 |exit (id:Nat)
 |ret
def Code.lB:Code->Nat
 | .region id _ _=>id
 | .seq a _=>Code.lB a
 | .cond _ a _=>Code.lB a
 | .block _ c | .loop c | .scope c=>Code.lB c
 |_=>0
def cx(keep:Option (List Nat×List Nat))(s:S):Option S:=match keep with |some l=>canon l.1 s |none=>some s
def eI(keep:Option (List Nat×List Nat))(s:S):Option S:=match keep with |some l=>canon l.2 s |none=>some s
def eK(body:S->Option (PX×S))(keep:Option (List Nat×List Nat)):Nat->S->Option (PX×S)
 |0,_=>none
 |k+1,s=>match cx keep s with
  |none=>none
  |some s0=>match body s0 with
   |some (.normal,s1)=>eK body keep k s1
   |some (e,s1)=>(match eI keep s1 with |some s2=>some (e,s2)|none=>none)
   |none=>none
noncomputable def aS(Q:Program)(cf:CF)(kp:Nat->Option (List Nat×List Nat))(lf:Nat):Code->S->Option (PX×S)
 | .skip,s=>some (.normal,s)
 | .label _,s=>some (.normal,s)
 | .region _ ops draw,s=>(match(if draw then fu Q cf ops.toList s else cn Q cf ops.toList ops.toList s) with |some s1=>some (.normal,s1)|none=>none)
 | .seq a b,s=>match aS Q cf kp lf a s with
  |some (.normal,s1)=>aS Q cf kp lf b s1
  |r=>r
 | .cond c x y,s=>match s.ev c with
  | .d (.bool b)=>if b then aS Q cf kp lf x s else aS Q cf kp lf y s
  |_=>none
 | .block id c,s=>match aS Q cf kp lf c s with
  |some (.exit kl,s1)=>if Nat.beq kl id then some (.normal,s1) else some (.exit kl,s1)
  |r=>r
 | .loop c,s=>eK (aS Q cf kp lf c) (kp (Code.lB c)) lf s
 | .scope c,s=>aS Q cf kp lf c s
 | .exit id,s=>some (.exit id,s)
 | .ret,s=>some (.ret,s)
 |_,_=>none
def oT(Q:Program)(s:S):ResultVar->Option P
 | .tmp t=>some (((lk s.tm t).getD .bad).under none)
 | .cell t ty=>iJ Q s ty (((lk s.tm t).getD .bad).under none)
def bW(Q:Program)(s:S):List ResultVar->Option (List P)
 | []=>some []
 |r::rs=>match oT Q s r,bW Q s rs with |some p,some ps=>some (p::ps)|_,_=>none
def BS:List P->P
 | [p]=>p
 |qs=> .fL qs
def dB:Nat->List P->List (Nat×P)
 |_,[]=>[]
 |i,p::ps=>(i,p)::dB (i+1) ps
def xv(Q:Program)(t:TypeId)(p:P):P:=
 match p with
 | .d .bu=>(match bI Q t with
  |some e=>(match sz Q e with |some (k+1)=> .d (.sl (k+1) [])|_=> .d .bu)
  |none=> .d .bu)
 |p=>p
def gb(Q:Program):List TypeId->List P->List P
 |t::ts,p::ps=>xv Q t p::gb Q ts ps
 |_,ps=>ps
def gF(keep:Option (List Nat×List Nat))(Q:Program)(ts:List TypeId)(ps:List P):List P:=match keep with |some _=>ps |none=>gb Q ts ps
def tu(R:List (Nat×En)):Nat->Nat->List Nat
 |_,0=>[]
 |i,k+1=>match kg R i with
  |some (n,e)=>(match e.obj with | .gone=>tu R (i+1) k |_=>n::tu R (i+1) k)
  |none=>tu R (i+1) k
def BT(R:List (Nat×En))(m:Nat)(p:P):List Nat:=tu R 0 m++bV R (reach R 1000 (p::cF R R) [])
def my(Q:Program)(s:S)(ts:List TypeId):List P->Option (S×List P)
 | []=>some (s,[])
 |p::ps=>match gA Q s (ts.headD 0) p with
  |none=>none
  |some (s1,q)=>match my Q s1 ts.tail ps with
   |some (s2,qs)=>some (s2,q::qs)
   |none=>none
def finish(Q:Program)(m:Nat)(Iq:List TypeId)(qs:List P)(s:S):Option (P×List (Nat×En)):=
 match my Q s Iq qs with
 |none=>none
 |some (s0,L6)=>match bh s0 3000000 L6 (Iq.map (bI Q)) with
 |none=>none
 |some (s1,Lc)=>
  let ns:=BT s1.rg m (BS Lc)
  if cE ns then(match sub s1.rg (toPos s1.rg ns) false 0 ns with
   |some R=>some (nb (toPos s1.rg ns) (BS Lc),R)
   |none=>none) else none
noncomputable def dh(Q:Program)(kp:tq)(lf:Nat):Nat->CF
 |0=>λ_ _ _=>none
 |k+1=>λf ps R=>match Q.funcs[f]? with
  |none=>none
  |some fn=>if eV f kp.xs then kp.X f ps R else match fn.body with
   |none=>none
   |some c=>if fn.name== "runtime.NumGoroutine" then none else
    match aS Q (dh Q kp lf k) (kp f) lf c ⟨fn.ntmps,dB 0 (gF (kp f 999999) Q fn.params.toList ps),R⟩ with
    |some (.exit _,_)=>none
    |some (_,s1)=>(match bW Q s1 fn.results.toList with
     |some qs=>finish Q R.length fn.resultTypes.toList qs s1
     |none=>none)
    |none=>none
end Pi
