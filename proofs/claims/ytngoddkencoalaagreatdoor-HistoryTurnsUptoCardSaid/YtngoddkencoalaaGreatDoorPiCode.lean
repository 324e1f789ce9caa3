/- The text PiCode. -/
import Derived.Test.YtngoddkencoalaaGreatDoorPiEf
namespace Pi
open Go
mutual
def Cg(ρ:Nat->Nat->Option (Nat×Nat)):P->P
 | .agg ps=> .agg (ny ρ ps)
 | .cH ps=> .cH (ny ρ ps)
 | .fn f ps=> .fn f (ny ρ ps)
 | .ref n v off=>match ρ n v with |some (n',v')=> .ref n' v' off |none=> .bad
 | .dD n v i k off=>match ρ n v with |some (n',v')=> .dD n' v' i k off |none=> .bad
 | .sl n v len=>match ρ n v with |some (n',v')=> .sl n' v' len |none=> .bad
 | .mb n v k off len=>match ρ n v with |some (n',v')=> .mb n' v' k off len |none=> .bad
 | .mp n v=>match ρ n v with |some (n',v')=> .mp n' v' |none=> .bad
 | .when t b p=> .when t b (Cg ρ p)
 | .d x=> .d x
 | .fe x off=> .fe x off
 | .bad=> .bad
def ny(ρ:Nat->Nat->Option (Nat×Nat)):List P->List P
 | []=>[]
 |p::ps=>Cg ρ p::ny ρ ps
end
def fZ(ρ:Nat->Nat->Option (Nat×Nat)):Obj->Obj
 | .box ty ps=> .box ty (ny ρ ps)
 | .kD kt get c p kd=> .kD kt get c (Cg ρ p) kd
 |o=>o
def P.qkI:P->List P
 | .agg ps | .cH ps | .fn _ ps=>ps
 | .when _ _ p=>[p]
 |_=>[]
def P.name:P->Option (Nat×Nat)
 | .ref n v _ | .dD n v _ _ _ | .sl n v _ | .mb n v _ _ _ | .mp n v=>some (n,v)
 |_=>none
def gZ:Nat->List Nat->Bool
 |_,[]=>false
 |n,m::r=>Nat.beq n m ||gZ n r
def reach(R:List (Nat×En)):Nat->List P->List Nat->List Nat
 |0,_,acc=>acc
 |_,[],acc=>acc
 |k+1,p::ps,acc=>match p.name with
  |none=>reach R k (p.qkI++ps) acc
  |some (n,v)=>if gZ n acc then reach R k ps acc else
   match lk R n with
   |some e=>if Nat.beq e.aV v then(match e.obj with
    | .gone=>reach R k ps acc
    | .box _ qs=>reach R k (qs++ps) (acc++[n])
    |_=>reach R k ps (acc++[n])) else reach R k ps acc
   |none=>reach R k ps acc
def posOf:List Nat->Nat->Nat->Option Nat
 | [],_,_=>none
 |m::r,n,i=>if Nat.beq m n then some i else posOf r n (i+1)
def toPos(R:List (Nat×En))(ns:List Nat)(n v:Nat):Option (Nat×Nat):=
 match posOf ns n 0,lk R n with
 |some i,some e=>if Nat.beq e.aV v then some (i,0) else none
 |_,_=>none
def sub(R:List (Nat×En))(ρ:Nat->Nat->Option (Nat×Nat))(tagged:Bool):Nat->List Nat->Option (List (Nat×En))
 |_,[]=>some []
 |i,n::ns=>match lk R n with
  |some e=>match e.obj,sub R ρ tagged (i+1) ns with
   | .gone,_=>none
   |_,some r=>some ((i,⟨0,if tagged then some i else e.tag,fZ ρ e.obj⟩)::r)
   |_,none=>none
  |none=>none
def dZ:List Nat->Bool
 | []=>true
 |n::r=> !gZ n r&&dZ r
def rN(ρ:Nat->Nat->Option (Nat×Nat))(keep:List Nat):List (Nat×P)->List (Nat×P)
 | []=>[]
 | (t,p)::r=>if gZ t keep then(t,Cg ρ p)::rN ρ keep r else rN ρ keep r
def YR(keep:List Nat):List (Nat×P)->List P
 | []=>[]
 | (t,p)::r=>if gZ t keep then p::YR keep r else YR keep r
def canon(keep:List Nat)(s:S):Option S:=
 let ns:=reach s.rg 1000 (YR keep s.tm) []
 if dZ ns then
  (match sub s.rg (toPos s.rg ns) false 0 ns with
  |some R=>some ⟨s.n,rN (toPos s.rg ns) keep s.tm,R⟩
  |none=>none) else none
abbrev CF:=FuncId->List P->List (Nat×En)->Option (P×List (Nat×En))
def qc9:List P->Bool
 | []=>true
 |p::r=>(match p with | .d _ | .sl _ _ _ | .mb _ _ _ _ _=>true |_=>false)&&qc9 r
def ll(Q:Program)(s:S)(t:TypeId)(p:P):Option (S×P):=
 match p with
 | .agg ps=>if qc9 ps then(match ov Q s t (.agg ps) with |some (s1,x)=>some (s1,P.d x)|none=>none) else some (s,.agg ps)
 | .d x=>(match dE Q t&&rM Q t with |true=>(nzD Q t x).force λy=>some (s,.d y)|false=>some (s,.d x))
 |p=>some (s,p)
def qe(Q:Program)(s:S)(t:TypeId)(p:P):Option (S×P):=
 match p with
 | .sl .. | .mb ..=>(match qc Q s p with |some (s1,x)=>some (s1,P.d x)|none=>none)
 |p=>ll Q s t p
def eF(Q:Program)(s:S)(ts:List TypeId):List P->Option (S×List P)
 | []=>some (s,[])
 |p::ps=>match qe Q s (ts.headD 0) p with
  |none=>none
  |some (s1,q)=>match eF Q s1 ts.tail ps with
   |some (s2,qs)=>some (s2,q::qs)
   |none=>none
def qh1(x:String):List String->Bool
 | []=>false
 |y::r=>x==y ||qh1 x r
def On:List String:=["recension/recensionref13.Find", "recension/recensionref13.Within", "recension/recensionref16.Find", "recension/recensionref09.Has", "recension/recensionref09.HasStamp"]
def qh2(Q:Program)(f:FuncId):Bool:=
 match Q.funcs[f]? with
 |some fn=>qh1 fn.name On || !fn.targs.toList.isEmpty&&(fn.origin== "slices.SortFunc" ||fn.origin== "slices.DeleteFunc" ||fn.origin== "slices.Delete" ||fn.origin== "slices.Insert" ||fn.origin== "slices.Reverse" ||fn.origin== "slices.IndexFunc" ||fn.origin== "slices.ContainsFunc" ||fn.origin== "slices.Clone")
 |none=>false
def Rs(Q:Program)(f:FuncId):List TypeId:=match Q.funcs[f]? with |some fn=>fn.params.toList |none=>[]
def cV(Q:Program)(s:S)(f:FuncId)(ps:List P):Option (S×List P):=if qh2 Q f then some (s,ps) else eF Q s (Rs Q f) ps
def Ru:List (Nat×En)->Nat->Option Nat
 | [],_=>none
 | (m,e)::r,i=>(match e.tag with |some j=>if Nat.beq i j then some m else Ru r i |none=>Ru r i)
def yx(R1:List (Nat×En))(i:Nat):Option (Nat×En):=
 match Ru R1 i with
 |some m=>(match lk R1 m with
  |some e=>(match e.tag with |some j=>if Nat.beq i j then some (m,e) else none |none=>none)
  |none=>none)
 |none=>none
def fo(R1:List (Nat×En))(R:List (Nat×En))(ns ms:List Nat)(base:Nat)(n v:Nat):Option (Nat×Nat):=
 match lk R1 n with
 |none=>none
 |some e=>if Nat.beq e.aV v then(match e.tag with
  |some i=>(match ns[i]?,yx R1 i with
   |some m,some (n1,_)=>if Nat.beq n1 n then(match lk R m with |some e0=>some (m,e0.aV)|none=>none) else none
   |_,_=>none)
  |none=>(match posOf ms n 0 with
   |some j=>(match lk R (base+j) with |none=>some (base+j,0)|some e0=>some (base+j,e0.aV+1))
   |none=>none)) else none
def gw(R1:List (Nat×En))(σ:Nat->Nat->Option (Nat×Nat)):Nat->List Nat->List (Nat×En)->Option (List (Nat×En))
 |_,[],R=>some R
 |i,n::ns,R=>match lk R n with
  |none=>none
  |some e=>gw R1 σ (i+1) ns (ins n ⟨e.aV,e.tag,match yx R1 i with |some (_,e1)=>fZ σ e1.obj |none=> .gone⟩ R)
def ln(R1:List (Nat×En))(σ:Nat->Nat->Option (Nat×Nat)):Nat->List Nat->List (Nat×En)->Option (List (Nat×En))
 |_,[],R=>some R
 |m,n::ns,R=>match lk R1 n with
  |none=>none
  |some e1=>match lk R m with
   |none=>ln R1 σ (m+1) ns (ins m ⟨0,none,fZ σ e1.obj⟩ R)
   |some e0=>match e0.obj with
    | .gone=>ln R1 σ (m+1) ns (ins m ⟨e0.aV+1,none,fZ σ e1.obj⟩ R)
    |_=>none
def dh(R1:List (Nat×En)):List Nat->List Nat
 | []=>[]
 |n::r=>match lk R1 n with
  |some e=>(match e.tag with |none=>n::dh R1 r |some _=>dh R1 r)
  |none=>dh R1 r
def fp(R1:List (Nat×En)):List (Nat×En)->List P
 | []=>[]
 | (_,e)::r=>match e.tag,e.obj with
  |some _,.box _ ps=>ps++fp R1 r
  |_,_=>fp R1 r
def mS(Q:Program)(cf:CF)(s:S)(dst:Option Nat)(f:P)(args:List P):Option S:=
 match f with
 | .fn kW cQ=>match cV Q s kW (args++cQ) with
  |none=>none
  |some (s1,ps)=>
   let ns:=reach s1.rg 1000 ps []
   if dZ ns then(match sub s1.rg (toPos s1.rg ns) true 0 ns with
    |none=>none
    |some R0=>match cf kW (ny (toPos s1.rg ns) ps) R0 with
     |none=>none
     |some (p,R1)=>
      let ms:=dh R1 (reach R1 1000 (p::fp R1 R1) [])
      let σ:=fo R1 s1.rg ns ms (site dst*1000)
      if dZ ms&&Nat.ble ms.length 1000 then(match gw R1 σ 0 ns s1.rg with
       |none=>none
       |some R2=>match ln R1 σ (site dst*1000) ms R2 with
        |none=>none
        |some R3=>({s1 with rg:=R3}:S).put dst (Cg σ p)) else none) else none
 |_=>none
def bj(ops:List Oper)(o:Oper):Option (Option (Nat×Bool)):=
 match o.guard with
 |none=>some none
 |some (j,want)=>match ops[j]? with
  |some oj=>(match oj.dst with |some t=>some (some (t,want))|none=>none)
  |none=>none
def gC(o:Oper):Option (Operand×List Operand):=
 match o.op with
 | .call c=>match c.callee with | .value f=>some (f,c.args.toList)|_=>none
 |_=>none
def gk(Q:Program)(cf:CF)(s:S)(o:Oper)(g:Option (Nat×Bool)):Option S:=
 match gC o with
 |some (f,xs)=>mS Q cf s o.dst (s.eg g f) (xs.map (s.eg g))
 |none=>exec Q s o g
def br(Q:Program)(cf:CF)(ops:List Oper)(s:S)(o:Oper):Option S:=
 match bj ops o with
 |none=>none
 |some none=>gk Q cf s o none
 |some (some (t,want))=>
  match lk s.tm t with
  |some (.d (.bool b))=>if b==want then gk Q cf s o (some (t,want)) else s.put o.dst .skip
  |some (.when ..)=>s.put o.dst .skip
  |_=>none
def dz(Q:Program)(cf:CF)(ops:List Oper):List Oper->S->Option S
 | [],s=>some s
 |o::r,s=>match br Q cf ops s o with
  |some s1=>dz Q cf ops r s1
  |none=>none
end Pi
