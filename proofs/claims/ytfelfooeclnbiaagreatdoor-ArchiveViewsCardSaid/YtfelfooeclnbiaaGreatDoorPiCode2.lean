/- The text PiCode2. -/
import Derived.Test.YtfelfooeclnbiaaGreatDoorPiDraw
namespace Pi
open Go
structure sr where
 kp:FuncId->Nat->Option (List Nat×List Nat)
 xs:List Nat
 X:CF
instance:CoeFun sr λ_=>FuncId->Nat->Option (List Nat×List Nat):=⟨sr.kp⟩
inductive PX where
 |normal
 |exit (id:Nat)
 |ret
def Code.rZ:Code->Nat
 | .region id _ _=>id
 | .seq a _=>Code.rZ a
 | .cond _ a _=>Code.rZ a
 | .block _ c | .loop c | .scope c=>Code.rZ c
 |_=>0
def cH(keep:Option (List Nat×List Nat))(s:S):Option S:=match keep with |some l=>canon l.1 s |none=>some s
def eE(keep:Option (List Nat×List Nat))(s:S):Option S:=match keep with |some l=>canon l.2 s |none=>some s
def im(body:S->Option (PX×S))(keep:Option (List Nat×List Nat)):Nat->S->Option (PX×S)
 |0,_=>none
 |k+1,s=>match cH keep s with
  |none=>none
  |some s0=>match body s0 with
   |some (.normal,s1)=>im body keep k s1
   |some (e,s1)=>(match eE keep s1 with |some s2=>some (e,s2)|none=>none)
   |none=>none
noncomputable def bJ(Q:Program)(cf:CF)(kp:Nat->Option (List Nat×List Nat))(lf:Nat):Code->S->Option (PX×S)
 | .skip,s=>some (.normal,s)
 | .label _,s=>some (.normal,s)
 | .region _ ops draw,s=>(match(if draw then iY Q cf ops.toList s else de Q cf ops.toList ops.toList s) with |some s1=>some (.normal,s1)|none=>none)
 | .seq a b,s=>match bJ Q cf kp lf a s with
  |some (.normal,s1)=>bJ Q cf kp lf b s1
  |r=>r
 | .cond c x y,s=>match s.ev c with
  | .d (.bool b)=>if b then bJ Q cf kp lf x s else bJ Q cf kp lf y s
  |_=>none
 | .block id c,s=>match bJ Q cf kp lf c s with
  |some (.exit pd,s1)=>if Nat.beq pd id then some (.normal,s1) else some (.exit pd,s1)
  |r=>r
 | .loop c,s=>im (bJ Q cf kp lf c) (kp (Code.rZ c)) lf s
 | .scope c,s=>bJ Q cf kp lf c s
 | .exit id,s=>some (.exit id,s)
 | .ret,s=>some (.ret,s)
 |_,_=>none
def wA(Q:Program)(s:S):ResultVar->Option P
 | .tmp t=>some (((lk s.tm t).getD .bad).under none)
 | .cell t ty=>qE Q s ty (((lk s.tm t).getD .bad).under none)
def cY(Q:Program)(s:S):List ResultVar->Option (List P)
 | []=>some []
 |r::rs=>match wA Q s r,cY Q s rs with |some p,some ps=>some (p::ps)|_,_=>none
def O5:List P->P
 | [p]=>p
 |qs=> .bI qs
def fF:Nat->List P->List (Nat×P)
 |_,[]=>[]
 |i,p::ps=>(i,p)::fF (i+1) ps
def HS(Q:Program)(t:TypeId)(p:P):P:=
 match p with
 | .d .dS=>(match cG Q t with
  |some e=>(match sz Q e with |some (k+1)=> .d (.sl (k+1) [])|_=> .d .dS)
  |none=> .d .dS)
 |p=>p
def jX(Q:Program):List TypeId->List P->List P
 |t::ts,p::ps=>HS Q t p::jX Q ts ps
 |_,ps=>ps
def kJ(keep:Option (List Nat×List Nat))(Q:Program)(ts:List TypeId)(ps:List P):List P:=match keep with |some _=>ps |none=>jX Q ts ps
def B2(R:List (Nat×En)):Nat->Nat->List Nat
 |_,0=>[]
 |i,k+1=>match w6 R i with
  |some (n,e)=>(match e.obj with | .gone=>B2 R (i+1) k |_=>n::B2 R (i+1) k)
  |none=>B2 R (i+1) k
def O6(R:List (Nat×En))(m:Nat)(p:P):List Nat:=B2 R 0 m++cX R (reach R 1000 (p::fe R R) [])
def su(Q:Program)(s:S)(ts:List TypeId):List P->Option (S×List P)
 | []=>some (s,[])
 |p::ps=>match kC Q s (ts.headD 0) p with
  |none=>none
  |some (s1,q)=>match su Q s1 ts.tail ps with
   |some (s2,qs)=>some (s2,q::qs)
   |none=>none
def finish(Q:Program)(m:Nat)(rts:List TypeId)(qs:List P)(s:S):Option (P×List (Nat×En)):=
 match su Q s rts qs with
 |none=>none
 |some (s0,qs0)=>match ca s0 3000000 qs0 (rts.map (cG Q)) with
 |none=>none
 |some (s1,qs1)=>
  let ns:=O6 s1.rg m (O5 qs1)
  if dJ ns then(match sub s1.rg (toPos s1.rg ns) false 0 ns with
   |some R=>some (Ar (toPos s1.rg ns) (O5 qs1),R)
   |none=>none) else none
noncomputable def fG(Q:Program)(kp:sr)(lf:Nat):Nat->CF
 |0=>λ_ _ _=>none
 |k+1=>λf ps R=>match Q.funcs[f]? with
  |none=>none
  |some fn=>if jE f kp.xs then kp.X f ps R else match fn.body with
   |none=>none
   |some c=>if fn.name== "runtime.NumGoroutine" then none else
    match bJ Q (fG Q kp lf k) (kp f) lf c ⟨fn.ntmps,fF 0 (kJ (kp f 999999) Q fn.params.toList ps),R⟩ with
    |some (.exit _,_)=>none
    |some (_,s1)=>(match cY Q s1 fn.results.toList with
     |some qs=>finish Q R.length fn.resultTypes.toList qs s1
     |none=>none)
    |none=>none
end Pi
