/- The text PiCode2. -/
import Derived.Test.YtngoddkencoalaaGreatDoorPiDraw
namespace Pi
open Go
structure py where
 kp:FuncId->Nat->Option (List Nat×List Nat)
 xs:List Nat
 X:CF
instance:CoeFun py fun _=>FuncId->Nat->Option (List Nat×List Nat):=⟨py.kp⟩
inductive PX where
 |normal
 |exit (id:Nat)
 |ret
def Code.rM:Code->Nat
 | .region id _ _=>id
 | .seq a _=>Code.rM a
 | .cond _ a _=>Code.rM a
 | .block _ c | .loop c | .scope c=>Code.rM c
 |_=>0
def cq (keep:Option (List Nat×List Nat)) (s:S):Option S:=match keep with |some l=>canon l.1 s |none=>some s
def dt (keep:Option (List Nat×List Nat)) (s:S):Option S:=match keep with |some l=>canon l.2 s |none=>some s
def hQ (body:S->Option (PX×S)) (keep:Option (List Nat×List Nat)):Nat->S->Option (PX×S)
 |0,_=>none
 |k+1,s=>match cq keep s with
  |none=>none
  |some s0=>match body s0 with
   |some (.normal,s1)=>hQ body keep k s1
   |some (e,s1)=>(match dt keep s1 with |some s2=>some (e,s2)|none=>none)
   |none=>none
noncomputable def bz (Q:Program) (cf:CF) (kp:Nat->Option (List Nat×List Nat)) (lf:Nat):Code->S->Option (PX×S)
 | .skip,s=>some (.normal,s)
 | .label _,s=>some (.normal,s)
 | .region _ ops draw,s=>(match(if draw then iI Q cf ops.toList s else dh Q cf ops.toList ops.toList s) with |some s1=>some (.normal,s1)|none=>none)
 | .seq a b,s=>match bz Q cf kp lf a s with
  |some (.normal,s1)=>bz Q cf kp lf b s1
  |r=>r
 | .cond c x y,s=>match s.ev c with
  | .d (.bool b)=>if b then bz Q cf kp lf x s else bz Q cf kp lf y s
  |_=>none
 | .block id c,s=>match bz Q cf kp lf c s with
  |some (.exit ou,s1)=>if Nat.beq ou id then some (.normal,s1) else some (.exit ou,s1)
  |r=>r
 | .loop c,s=>hQ (bz Q cf kp lf c) (kp (Code.rM c)) lf s
 | .scope c,s=>bz Q cf kp lf c s
 | .exit id,s=>some (.exit id,s)
 | .ret,s=>some (.ret,s)
 |_,_=>none
def rX (Q:Program) (s:S):ResultVar->Option P
 | .tmp t=>some (((lk s.tm t).getD .bad).under none)
 | .cell t ty=>qi Q s ty (((lk s.tm t).getD .bad).under none)
def cT (Q:Program) (s:S):List ResultVar->Option (List P)
 | []=>some []
 |r::rs=>match rX Q s r,cT Q s rs with |some p,some ps=>some (p::ps)|_,_=>none
def MY:List P->P
 | [p]=>p
 |qs=> .da qs
def fj:Nat->List P->List (Nat×P)
 |_,[]=>[]
 |i,p::ps=>(i,p)::fj (i+1) ps
def FY (Q:Program) (t:TypeId) (p:P):P:=
 match p with
 | .d .gu=>(match cE Q t with
  |some e=>(match sz Q e with |some (k+1)=> .d (.sl (k+1) [])|_=> .d .gu)
  |none=> .d .gu)
 |p=>p
def gx (Q:Program):List TypeId->List P->List P
 |t::ts,p::ps=>FY Q t p::gx Q ts ps
 |_,ps=>ps
def jZ (keep:Option (List Nat×List Nat)) (Q:Program) (ts:List TypeId) (ps:List P):List P:=match keep with |some _=>ps |none=>gx Q ts ps
def A2 (R:List (Nat×En)):Nat->Nat->List Nat
 |_,0=>[]
 |i,k+1=>match vT R i with
  |some (n,e)=>(match e.obj with | .gone=>A2 R (i+1) k |_=>n::A2 R (i+1) k)
  |none=>A2 R (i+1) k
def MZ (R:List (Nat×En)) (m:Nat) (p:P):List Nat:=A2 R 0 m++cS R (reach R 1000 (p::eY R R) [])
def rY (Q:Program) (s:S) (ts:List TypeId):List P->Option (S×List P)
 | []=>some (s,[])
 |p::ps=>match jU Q s (ts.headD 0) p with
  |none=>none
  |some (s1,q)=>match rY Q s1 ts.tail ps with
   |some (s2,qs)=>some (s2,q::qs)
   |none=>none
def finish (Q:Program) (m:Nat) (rts:List TypeId) (qs:List P) (s:S):Option (P×List (Nat×En)):=
 match rY Q s rts qs with
 |none=>none
 |some (s0,qs0)=>match cb s0 3000000 qs0 (rts.map (cE Q)) with
 |none=>none
 |some (s1,qs1)=>
  let ns:=MZ s1.rg m (MY qs1)
  if dN ns then(match sub s1.rg (toPos s1.rg ns) false 0 ns with
   |some R=>some (zw (toPos s1.rg ns) (MY qs1),R)
   |none=>none) else none
noncomputable def eZ (Q:Program) (kp:py) (lf:Nat):Nat->CF
 |0=>fun _ _ _=>none
 |k+1=>fun f ps R=>match Q.funcs[f]? with
  |none=>none
  |some fn=>if gw f kp.xs then kp.X f ps R else match fn.body with
   |none=>none
   |some c=>if fn.name== "runtime.NumGoroutine" then none else
    match bz Q (eZ Q kp lf k) (kp f) lf c ⟨fn.ntmps,fj 0 (jZ (kp f 999999) Q fn.params.toList ps),R⟩ with
    |some (.exit _,_)=>none
    |some (_,s1)=>(match cT Q s1 fn.results.toList with
     |some qs=>finish Q R.length fn.resultTypes.toList qs s1
     |none=>none)
    |none=>none
end Pi
