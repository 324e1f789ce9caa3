/- The text PiCode2. -/
import Derived.Test.YtngoddkencoalaaGreatDoorPiDraw
namespace Pi
open Go
structure pZ where
 kp:FuncId->Nat->Option (List Nat×List Nat)
 xs:List Nat
 X:CF
instance:CoeFun pZ λ_=>FuncId->Nat->Option (List Nat×List Nat):=⟨pZ.kp⟩
inductive PX where
 |normal
 |exit (id:Nat)
 |ret
def Code.r5:Code->Nat
 | .region id _ _=>id
 | .seq a _=>Code.r5 a
 | .cond _ a _=>Code.r5 a
 | .block _ c | .loop c | .scope c=>Code.r5 c
 |_=>0
def cw(keep:Option (List Nat×List Nat))(s:S):Option S:=match keep with |some l=>canon l.1 s |none=>some s
def dC(keep:Option (List Nat×List Nat))(s:S):Option S:=match keep with |some l=>canon l.2 s |none=>some s
def iB(body:S->Option (PX×S))(keep:Option (List Nat×List Nat)):Nat->S->Option (PX×S)
 |0,_=>none
 |k+1,s=>match cw keep s with
  |none=>none
  |some s0=>match body s0 with
   |some (.normal,s1)=>iB body keep k s1
   |some (e,s1)=>(match dC keep s1 with |some s2=>some (e,s2)|none=>none)
   |none=>none
noncomputable def bB(Q:Program)(cf:CF)(kp:Nat->Option (List Nat×List Nat))(lf:Nat):Code->S->Option (PX×S)
 | .skip,s=>some (.normal,s)
 | .label _,s=>some (.normal,s)
 | .region _ ops draw,s=>(match(if draw then jc Q cf ops.toList s else dx Q cf ops.toList ops.toList s) with |some s1=>some (.normal,s1)|none=>none)
 | .seq a b,s=>match bB Q cf kp lf a s with
  |some (.normal,s1)=>bB Q cf kp lf b s1
  |r=>r
 | .cond c x y,s=>match s.ev c with
  | .d (.bool b)=>if b then bB Q cf kp lf x s else bB Q cf kp lf y s
  |_=>none
 | .block id c,s=>match bB Q cf kp lf c s with
  |some (.exit o6,s1)=>if Nat.beq o6 id then some (.normal,s1) else some (.exit o6,s1)
  |r=>r
 | .loop c,s=>iB (bB Q cf kp lf c) (kp (Code.r5 c)) lf s
 | .scope c,s=>bB Q cf kp lf c s
 | .exit id,s=>some (.exit id,s)
 | .ret,s=>some (.ret,s)
 |_,_=>none
def sv(Q:Program)(s:S):ResultVar->Option P
 | .tmp t=>some (((lk s.tm t).getD .bad).under none)
 | .cell t ty=>qM Q s ty (((lk s.tm t).getD .bad).under none)
def db(Q:Program)(s:S):List ResultVar->Option (List P)
 | []=>some []
 |r::rs=>match sv Q s r,db Q s rs with |some p,some ps=>some (p::ps)|_,_=>none
def OX:List P->P
 | [p]=>p
 |qs=> .cX qs
def fB:Nat->List P->List (Nat×P)
 |_,[]=>[]
 |i,p::ps=>(i,p)::fB (i+1) ps
def HJ(Q:Program)(t:TypeId)(p:P):P:=
 match p with
 | .d .fP=>(match cJ Q t with
  |some e=>(match sz Q e with |some (k+1)=> .d (.sl (k+1) [])|_=> .d .fP)
  |none=> .d .fP)
 |p=>p
def gT(Q:Program):List TypeId->List P->List P
 |t::ts,p::ps=>HJ Q t p::gT Q ts ps
 |_,ps=>ps
def kM(keep:Option (List Nat×List Nat))(Q:Program)(ts:List TypeId)(ps:List P):List P:=match keep with |some _=>ps |none=>gT Q ts ps
def B5(R:List (Nat×En)):Nat->Nat->List Nat
 |_,0=>[]
 |i,k+1=>match w5 R i with
  |some (n,e)=>(match e.obj with | .gone=>B5 R (i+1) k |_=>n::B5 R (i+1) k)
  |none=>B5 R (i+1) k
def OY(R:List (Nat×En))(m:Nat)(p:P):List Nat:=B5 R 0 m++da R (reach R 1000 (p::fe R R) [])
def sw(Q:Program)(s:S)(ts:List TypeId):List P->Option (S×List P)
 | []=>some (s,[])
 |p::ps=>match kH Q s (ts.headD 0) p with
  |none=>none
  |some (s1,q)=>match sw Q s1 ts.tail ps with
   |some (s2,qs)=>some (s2,q::qs)
   |none=>none
def finish(Q:Program)(m:Nat)(rts:List TypeId)(qs:List P)(s:S):Option (P×List (Nat×En)):=
 match sw Q s rts qs with
 |none=>none
 |some (s0,qs0)=>match cm s0 3000000 qs0 (rts.map (cJ Q)) with
 |none=>none
 |some (s1,qs1)=>
  let ns:=OY s1.rg m (OX qs1)
  if dW ns then(match sub s1.rg (toPos s1.rg ns) false 0 ns with
   |some R=>some (AB (toPos s1.rg ns) (OX qs1),R)
   |none=>none) else none
noncomputable def ff(Q:Program)(kp:pZ)(lf:Nat):Nat->CF
 |0=>λ_ _ _=>none
 |k+1=>λf ps R=>match Q.funcs[f]? with
  |none=>none
  |some fn=>if gS f kp.xs then kp.X f ps R else match fn.body with
   |none=>none
   |some c=>if fn.name== "runtime.NumGoroutine" then none else
    match bB Q (ff Q kp lf k) (kp f) lf c ⟨fn.ntmps,fB 0 (kM (kp f 999999) Q fn.params.toList ps),R⟩ with
    |some (.exit _,_)=>none
    |some (_,s1)=>(match db Q s1 fn.results.toList with
     |some qs=>finish Q R.length fn.resultTypes.toList qs s1
     |none=>none)
    |none=>none
end Pi
