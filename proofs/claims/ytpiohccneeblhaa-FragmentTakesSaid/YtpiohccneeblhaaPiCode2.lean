/- The text PiCode2. -/
import Derived.Test.YtpiohccneeblhaaPiDraw
namespace Pi
open Go
structure tf where
 kp:FuncId->Nat->Option (List Nat×List Nat)
 xs:List Nat
 X:CF
instance:CoeFun tf λ_=>FuncId->Nat->Option (List Nat×List Nat):=⟨tf.kp⟩
inductive PX where
 |normal
 |exit (id:Nat)
 |ret
def Code.lz:Code->Nat
 | .region id _ _=>id
 | .seq a _=>Code.lz a
 | .cond _ a _=>Code.lz a
 | .block _ c | .loop c | .scope c=>Code.lz c
 |_=>0
def cw(keep:Option (List Nat×List Nat))(s:S):Option S:=match keep with |some l=>canon l.1 s |none=>some s
def eI(keep:Option (List Nat×List Nat))(s:S):Option S:=match keep with |some l=>canon l.2 s |none=>some s
def eK(body:S->Option (PX×S))(keep:Option (List Nat×List Nat)):Nat->S->Option (PX×S)
 |0,_=>none
 |k+1,s=>match cw keep s with
  |none=>none
  |some s0=>match body s0 with
   |some (.normal,s1)=>eK body keep k s1
   |some (e,s1)=>(match eI keep s1 with |some s2=>some (e,s2)|none=>none)
   |none=>none
noncomputable def aT(Q:Program)(cf:CF)(kp:Nat->Option (List Nat×List Nat))(lf:Nat):Code->S->Option (PX×S)
 | .skip,s=>some (.normal,s)
 | .label _,s=>some (.normal,s)
 | .region _ ops draw,s=>(match(if draw then fu Q cf ops.toList s else cj Q cf ops.toList ops.toList s) with |some s1=>some (.normal,s1)|none=>none)
 | .seq a b,s=>match aT Q cf kp lf a s with
  |some (.normal,s1)=>aT Q cf kp lf b s1
  |r=>r
 | .cond c x y,s=>match s.ev c with
  | .d (.bool b)=>if b then aT Q cf kp lf x s else aT Q cf kp lf y s
  |_=>none
 | .block id c,s=>match aT Q cf kp lf c s with
  |some (.exit kl,s1)=>if Nat.beq kl id then some (.normal,s1) else some (.exit kl,s1)
  |r=>r
 | .loop c,s=>eK (aT Q cf kp lf c) (kp (Code.lz c)) lf s
 | .scope c,s=>aT Q cf kp lf c s
 | .exit id,s=>some (.exit id,s)
 | .ret,s=>some (.ret,s)
 |_,_=>none
def oR(Q:Program)(s:S):ResultVar->Option P
 | .tmp t=>some (((lk s.tm t).getD .bad).under none)
 | .cell t ty=>iJ Q s ty (((lk s.tm t).getD .bad).under none)
def bU(Q:Program)(s:S):List ResultVar->Option (List P)
 | []=>some []
 |r::rs=>match oR Q s r,bU Q s rs with |some p,some ps=>some (p::ps)|_,_=>none
def BB:List P->P
 | [p]=>p
 |qs=> .fL qs
def dB:Nat->List P->List (Nat×P)
 |_,[]=>[]
 |i,p::ps=>(i,p)::dB (i+1) ps
def xi(Q:Program)(t:TypeId)(p:P):P:=
 match p with
 | .d .bt=>(match bG Q t with
  |some e=>(match sz Q e with |some (k+1)=> .d (.sl (k+1) [])|_=> .d .bt)
  |none=> .d .bt)
 |p=>p
def ga(Q:Program):List TypeId->List P->List P
 |t::ts,p::ps=>xi Q t p::ga Q ts ps
 |_,ps=>ps
def gF(keep:Option (List Nat×List Nat))(Q:Program)(ts:List TypeId)(ps:List P):List P:=match keep with |some _=>ps |none=>ga Q ts ps
def tg(R:List (Nat×En)):Nat->Nat->List Nat
 |_,0=>[]
 |i,k+1=>match kg R i with
  |some (n,e)=>(match e.obj with | .gone=>tg R (i+1) k |_=>n::tg R (i+1) k)
  |none=>tg R (i+1) k
def BD(R:List (Nat×En))(m:Nat)(p:P):List Nat:=tg R 0 m++bT R (reach R 1000 (p::cE R R) [])
def mr(Q:Program)(s:S)(ts:List TypeId):List P->Option (S×List P)
 | []=>some (s,[])
 |p::ps=>match gA Q s (ts.headD 0) p with
  |none=>none
  |some (s1,q)=>match mr Q s1 ts.tail ps with
   |some (s2,qs)=>some (s2,q::qs)
   |none=>none
def finish(Q:Program)(m:Nat)(H7:List TypeId)(qs:List P)(s:S):Option (P×List (Nat×En)):=
 match mr Q s H7 qs with
 |none=>none
 |some (s0,LB)=>match bh s0 3000000 LB (H7.map (bG Q)) with
 |none=>none
 |some (s1,KH)=>
  let ns:=BD s1.rg m (BB KH)
  if cD ns then(match sub s1.rg (toPos s1.rg ns) false 0 ns with
   |some R=>some (mY (toPos s1.rg ns) (BB KH),R)
   |none=>none) else none
noncomputable def dh(Q:Program)(kp:tf)(lf:Nat):Nat->CF
 |0=>λ_ _ _=>none
 |k+1=>λf ps R=>match Q.funcs[f]? with
  |none=>none
  |some fn=>if eV f kp.xs then kp.X f ps R else match fn.body with
   |none=>none
   |some c=>if fn.name== "runtime.NumGoroutine" then none else
    match aT Q (dh Q kp lf k) (kp f) lf c ⟨fn.ntmps,dB 0 (gF (kp f 999999) Q fn.params.toList ps),R⟩ with
    |some (.exit _,_)=>none
    |some (_,s1)=>(match bU Q s1 fn.results.toList with
     |some qs=>finish Q R.length fn.resultTypes.toList qs s1
     |none=>none)
    |none=>none
end Pi
