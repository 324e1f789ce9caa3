/- The text PiCode2. -/
import Derived.Test.YtngoddkencoalaaGreatDoorPiDraw
namespace Pi
open Go
structure qV where
 kp:FuncId->Nat->Option (List Nat×List Nat)
 xs:List Nat
 X:CF
instance:CoeFun qV λ_=>FuncId->Nat->Option (List Nat×List Nat):=⟨qV.kp⟩
inductive PX where
 |normal
 |exit (id:Nat)
 |ret
def Code.s9:Code->Nat
 | .region id _ _=>id
 | .seq a _=>Code.s9 a
 | .cond _ a _=>Code.s9 a
 | .block _ c | .loop c | .scope c=>Code.s9 c
 |_=>0
def cz(keep:Option (List Nat×List Nat))(s:S):Option S:=match keep with |some l=>canon l.1 s |none=>some s
def dG(keep:Option (List Nat×List Nat))(s:S):Option S:=match keep with |some l=>canon l.2 s |none=>some s
def iJ(body:S->Option (PX×S))(keep:Option (List Nat×List Nat)):Nat->S->Option (PX×S)
 |0,_=>none
 |k+1,s=>match cz keep s with
  |none=>none
  |some s0=>match body s0 with
   |some (.normal,s1)=>iJ body keep k s1
   |some (e,s1)=>(match dG keep s1 with |some s2=>some (e,s2)|none=>none)
   |none=>none
noncomputable def bQ(Q:Program)(cf:CF)(kp:Nat->Option (List Nat×List Nat))(lf:Nat):Code->S->Option (PX×S)
 | .skip,s=>some (.normal,s)
 | .label _,s=>some (.normal,s)
 | .region _ ops draw,s=>(match(if draw then js Q cf ops.toList s else dz Q cf ops.toList ops.toList s) with |some s1=>some (.normal,s1)|none=>none)
 | .seq a b,s=>match bQ Q cf kp lf a s with
  |some (.normal,s1)=>bQ Q cf kp lf b s1
  |r=>r
 | .cond c x y,s=>match s.ev c with
  | .d (.bool b)=>if b then bQ Q cf kp lf x s else bQ Q cf kp lf y s
  |_=>none
 | .block id c,s=>match bQ Q cf kp lf c s with
  |some (.exit qi,s1)=>if Nat.beq qi id then some (.normal,s1) else some (.exit qi,s1)
  |r=>r
 | .loop c,s=>iJ (bQ Q cf kp lf c) (kp (Code.s9 c)) lf s
 | .scope c,s=>bQ Q cf kp lf c s
 | .exit id,s=>some (.exit id,s)
 | .ret,s=>some (.ret,s)
 |_,_=>none
def xK(Q:Program)(s:S):ResultVar->Option P
 | .tmp t=>some (((lk s.tm t).getD .bad).under none)
 | .cell t ty=>rL Q s ty (((lk s.tm t).getD .bad).under none)
def dj(Q:Program)(s:S):List ResultVar->Option (List P)
 | []=>some []
 |r::rs=>match xK Q s r,dj Q s rs with |some p,some ps=>some (p::ps)|_,_=>none
def RA:List P->P
 | [p]=>p
 |qs=> .cH qs
def fI:Nat->List P->List (Nat×P)
 |_,[]=>[]
 |i,p::ps=>(i,p)::fI (i+1) ps
def JW(Q:Program)(t:TypeId)(p:P):P:=
 match p with
 | .d .fk=>(match cR Q t with
  |some e=>(match sz Q e with |some (k+1)=> .d (.sl (k+1) [])|_=> .d .fk)
  |none=> .d .fk)
 |p=>p
def kG(Q:Program):List TypeId->List P->List P
 |t::ts,p::ps=>JW Q t p::kG Q ts ps
 |_,ps=>ps
def lv(keep:Option (List Nat×List Nat))(Q:Program)(ts:List TypeId)(ps:List P):List P:=match keep with |some _=>ps |none=>kG Q ts ps
def DL(R:List (Nat×En)):Nat->Nat->List Nat
 |_,0=>[]
 |i,k+1=>match yx R i with
  |some (n,e)=>(match e.obj with | .gone=>DL R (i+1) k |_=>n::DL R (i+1) k)
  |none=>DL R (i+1) k
def RB(R:List (Nat×En))(m:Nat)(p:P):List Nat:=DL R 0 m++dh R (reach R 1000 (p::fp R R) [])
def tH(Q:Program)(s:S)(ts:List TypeId):List P->Option (S×List P)
 | []=>some (s,[])
 |p::ps=>match ll Q s (ts.headD 0) p with
  |none=>none
  |some (s1,q)=>match tH Q s1 ts.tail ps with
   |some (s2,qs)=>some (s2,q::qs)
   |none=>none
def finish(Q:Program)(m:Nat)(rts:List TypeId)(qs:List P)(s:S):Option (P×List (Nat×En)):=
 match tH Q s rts qs with
 |none=>none
 |some (s0,qs0)=>match cq s0 3000000 qs0 (rts.map (cR Q)) with
 |none=>none
 |some (s1,qs1)=>
  let ns:=RB s1.rg m (RA qs1)
  if dZ ns then(match sub s1.rg (toPos s1.rg ns) false 0 ns with
   |some R=>some (Cg (toPos s1.rg ns) (RA qs1),R)
   |none=>none) else none
noncomputable def fJ(Q:Program)(kp:qV)(lf:Nat):Nat->CF
 |0=>λ_ _ _=>none
 |k+1=>λf ps R=>match Q.funcs[f]? with
  |none=>none
  |some fn=>if gZ f kp.xs then kp.X f ps R else match fn.body with
   |none=>none
   |some c=>if fn.name== "runtime.NumGoroutine" then none else
    match bQ Q (fJ Q kp lf k) (kp f) lf c ⟨fn.ntmps,fI 0 (lv (kp f 999999) Q fn.params.toList ps),R⟩ with
    |some (.exit _,_)=>none
    |some (_,s1)=>(match dj Q s1 fn.results.toList with
     |some qs=>finish Q R.length fn.resultTypes.toList qs s1
     |none=>none)
    |none=>none
end Pi
