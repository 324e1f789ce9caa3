/- The text PiCode. -/
import Derived.Test.YtfelfooeclnbiaaPiEf
namespace Pi
open Go
mutual
def od(ρ:Nat->Nat->Option (Nat×Nat)):P->P
 | .agg ps=> .agg (iW ρ ps)
 | .dX ps=> .dX (iW ρ ps)
 | .fn f ps=> .fn f (iW ρ ps)
 | .ref n v off=>match ρ n v with |some (n',v')=> .ref n' v' off |none=> .bad
 | .bE n v i k off=>match ρ n v with |some (n',v')=> .bE n' v' i k off |none=> .bad
 | .sl n v len=>match ρ n v with |some (n',v')=> .sl n' v' len |none=> .bad
 | .e9 n v k off len=>match ρ n v with |some (n',v')=> .e9 n' v' k off len |none=> .bad
 | .mp n v=>match ρ n v with |some (n',v')=> .mp n' v' |none=> .bad
 | .when t b p=> .when t b (od ρ p)
 | .d x=> .d x
 | .cd x off=> .cd x off
 | .bad=> .bad
def iW(ρ:Nat->Nat->Option (Nat×Nat)):List P->List P
 | []=>[]
 |p::ps=>od ρ p::iW ρ ps
end
def nM(ρ:Nat->Nat->Option (Nat×Nat)):List (D×P)->List (D×P)
 | []=>[]
 | (k,p)::r=>(k,od ρ p)::nM ρ r
def EW:List (D×P)->List P
 | []=>[]
 | (_,p)::r=>p::EW r
def cB(ρ:Nat->Nat->Option (Nat×Nat)):Obj->Obj
 | .box ty ps=> .box ty (iW ρ ps)
 | .ei kt get c p kd=> .ei kt get c (od ρ p) kd
 | .aN kt es=> .aN kt (nM ρ es)
 |o=>o
def P.EX:P->List P
 | .agg ps | .dX ps | .fn _ ps=>ps
 | .when _ _ p=>[p]
 |_=>[]
def P.name:P->Option (Nat×Nat)
 | .ref n v _ | .bE n v _ _ _ | .sl n v _ | .e9 n v _ _ _ | .mp n v=>some (n,v)
 |_=>none
def dQ:Nat->List Nat->Bool
 |_,[]=>false
 |n,m::r=>Nat.beq n m ||dQ n r
def reach(R:List (Nat×En)):Nat->List P->List Nat->List Nat
 |0,_,acc=>acc
 |_,[],acc=>acc
 |k+1,p::ps,acc=>match p.name with
  |none=>reach R k (p.EX++ps) acc
  |some (n,v)=>if dQ n acc then reach R k ps acc else
   match lk R n with
   |some e=>if Nat.beq e.aw v then(match e.obj with
    | .gone=>reach R k ps acc
    | .box _ qs=>reach R k (qs++ps) (acc++[n])
    | .aN _ es=>reach R k (EW es++ps) (acc++[n])
    |_=>reach R k ps (acc++[n])) else reach R k ps acc
   |none=>reach R k ps acc
def posOf:List Nat->Nat->Nat->Option Nat
 | [],_,_=>none
 |m::r,n,i=>if Nat.beq m n then some i else posOf r n (i+1)
def toPos(R:List (Nat×En))(ns:List Nat)(n v:Nat):Option (Nat×Nat):=
 match posOf ns n 0,lk R n with
 |some i,some e=>if Nat.beq e.aw v then some (i,0) else none
 |_,_=>none
def sub(R:List (Nat×En))(ρ:Nat->Nat->Option (Nat×Nat))(tagged:Bool):Nat->List Nat->Option (List (Nat×En))
 |_,[]=>some []
 |i,n::ns=>match lk R n with
  |some e=>match e.obj,sub R ρ tagged (i+1) ns with
   | .gone,_=>none
   |_,some r=>some ((i,⟨0,if tagged then some i else e.tag,cB ρ e.obj⟩)::r)
   |_,none=>none
  |none=>none
def dp:List Nat->Bool
 | []=>true
 |n::r=> !dQ n r&&dp r
def k7(ρ:Nat->Nat->Option (Nat×Nat))(keep:List Nat):List (Nat×P)->List (Nat×P)
 | []=>[]
 | (t,p)::r=>if dQ t keep then(t,od ρ p)::k7 ρ keep r else k7 ρ keep r
def yI(keep:List Nat):List (Nat×P)->List P
 | []=>[]
 | (t,p)::r=>if dQ t keep then p::yI keep r else yI keep r
def canon(keep:List Nat)(s:S):Option S:=
 let ns:=reach s.rg 1000 (yI keep s.tm) []
 if dp ns then
  (match sub s.rg (toPos s.rg ns) false 0 ns with
  |some R=>some ⟨s.n,k7 (toPos s.rg ns) keep s.tm,R⟩
  |none=>none) else none
abbrev CF:=FuncId->List P->List (Nat×En)->Option (P×List (Nat×En))
def Ad:List P->Bool
 | []=>true
 |p::r=>(match p with | .d _ | .sl _ _ _ | .e9 _ _ _ _ _=>true |_=>false)&&Ad r
def eG(Q:Program)(s:S)(t:TypeId)(p:P):Option (S×P):=
 match p with
 | .agg ps=>if Ad ps then(match fW Q s t (.agg ps) with |some (s1,x)=>some (s1,P.d x)|none=>none) else some (s,.agg ps)
 | .d x=>(match bF Q t&&jj Q t with |true=>(AP Q t x).force λy=>some (s,.d y)|false=>some (s,.d x))
 |p=>some (s,p)
def gY(Q:Program)(s:S)(t:TypeId)(p:P):Option (S×P):=
 match p with
 | .sl .. | .e9 ..=>(match gW Q s p with |some (s1,x)=>some (s1,P.d x)|none=>none)
 |p=>eG Q s t p
def bW(Q:Program)(s:S)(ts:List TypeId):List P->Option (S×List P)
 | []=>some (s,[])
 |p::ps=>match gY Q s (ts.headD 0) p with
  |none=>none
  |some (s1,q)=>match bW Q s1 ts.tail ps with
   |some (s2,qs)=>some (s2,q::qs)
   |none=>none
def CL(x:String):List String->Bool
 | []=>false
 |y::r=>x==y ||CL x r
def uk:List String:=["recension/recensionref13.Find", "recension/recensionref13.Within", "recension/recensionref16.Find", "recension/recensionref09.Has", "recension/recensionref09.HasStamp"]
def CM(Q:Program)(f:FuncId):Bool:=
 match Q.funcs[f]? with
 |some fn=>CL fn.name uk || !fn.targs.toList.isEmpty&&(fn.origin== "slices.SortFunc" ||fn.origin== "slices.DeleteFunc" ||fn.origin== "slices.Delete" ||fn.origin== "slices.Insert" ||fn.origin== "slices.Reverse" ||fn.origin== "slices.IndexFunc" ||fn.origin== "slices.ContainsFunc" ||fn.origin== "slices.Clone")
 |none=>false
def vW(Q:Program)(f:FuncId):List TypeId:=match Q.funcs[f]? with |some fn=>fn.params.toList |none=>[]
def bn(Q:Program)(s:S)(f:FuncId)(ps:List P):Option (S×List P):=if CM Q f then some (s,ps) else bW Q s (vW Q f) ps
def vX:List (Nat×En)->Nat->Option Nat
 | [],_=>none
 | (m,e)::r,i=>(match e.tag with |some j=>if Nat.beq i j then some m else vX r i |none=>vX r i)
def ml(R1:List (Nat×En))(i:Nat):Option (Nat×En):=
 match vX R1 i with
 |some m=>(match lk R1 m with
  |some e=>(match e.tag with |some j=>if Nat.beq i j then some (m,e) else none |none=>none)
  |none=>none)
 |none=>none
def eH(R1:List (Nat×En))(R:List (Nat×En))(ns ms:List Nat)(base:Nat)(n v:Nat):Option (Nat×Nat):=
 match lk R1 n with
 |none=>none
 |some e=>if Nat.beq e.aw v then(match e.tag with
  |some i=>(match ns[i]?,ml R1 i with
   |some m,some (n1,_)=>if Nat.beq n1 n then(match lk R m with |some e0=>some (m,e0.aw)|none=>none) else none
   |_,_=>none)
  |none=>(match posOf ms n 0 with
   |some j=>(match lk R (base+j) with |none=>some (base+j,0)|some e0=>some (base+j,e0.aw+1))
   |none=>none)) else none
def dC(R1:List (Nat×En))(σ:Nat->Nat->Option (Nat×Nat)):Nat->List Nat->List (Nat×En)->Option (List (Nat×En))
 |_,[],R=>some R
 |i,n::ns,R=>match lk R n with
  |none=>none
  |some e=>dC R1 σ (i+1) ns (ins n ⟨e.aw,e.tag,match ml R1 i with |some (_,e1)=>cB σ e1.obj |none=> .gone⟩ R)
def fY(R1:List (Nat×En))(σ:Nat->Nat->Option (Nat×Nat)):Nat->List Nat->List (Nat×En)->Option (List (Nat×En))
 |_,[],R=>some R
 |m,n::ns,R=>match lk R1 n with
  |none=>none
  |some e1=>match lk R m with
   |none=>fY R1 σ (m+1) ns (ins m ⟨0,none,cB σ e1.obj⟩ R)
   |some e0=>match e0.obj with
    | .gone=>fY R1 σ (m+1) ns (ins m ⟨e0.aw+1,none,cB σ e1.obj⟩ R)
    |_=>none
def cV(R1:List (Nat×En)):List Nat->List Nat
 | []=>[]
 |n::r=>match lk R1 n with
  |some e=>(match e.tag with |none=>n::cV R1 r |some _=>cV R1 r)
  |none=>cV R1 r
def fC(R1:List (Nat×En)):List (Nat×En)->List P
 | []=>[]
 | (_,e)::r=>match e.tag,e.obj with
  |some _,.box _ ps=>ps++fC R1 r
  |some _,.aN _ es=>EW es++fC R1 r
  |_,_=>fC R1 r
def fo(Q:Program)(cf:CF)(s:S)(dst:Option Nat)(f:P)(args:List P):Option S:=
 match f with
 | .fn gZ cl=>match bn Q s gZ (args++cl) with
  |none=>none
  |some (s1,ps)=>
   let ns:=reach s1.rg 1000 ps []
   if dp ns then(match sub s1.rg (toPos s1.rg ns) true 0 ns with
    |none=>none
    |some R0=>match cf gZ (iW (toPos s1.rg ns) ps) R0 with
     |none=>none
     |some (p,R1)=>
      let ms:=cV R1 (reach R1 1000 (p::fC R1 R1) [])
      let σ:=eH R1 s1.rg ns ms (site dst*1000)
      if dp ms&&Nat.ble ms.length 1000 then(match dC R1 σ 0 ns s1.rg with
       |none=>none
       |some R2=>match fY R1 σ (site dst*1000) ms R2 with
        |none=>none
        |some R3=>({s1 with rg:=R3}:S).put dst (od σ p)) else none) else none
 |_=>none
def ay(ops:List Oper)(o:Oper):Option (Option (Nat×Bool)):=
 match o.guard with
 |none=>some none
 |some (j,want)=>match ops[j]? with
  |some oj=>(match oj.dst with |some t=>some (some (t,want))|none=>none)
  |none=>none
def eI(o:Oper):Option (Operand×List Operand):=
 match o.op with
 | .call c=>match c.callee with | .value f=>some (f,c.args.toList)|_=>none
 |_=>none
def cC(Q:Program)(cf:CF)(s:S)(o:Oper)(g:Option (Nat×Bool)):Option S:=
 match eI o with
 |some (f,xs)=>fo Q cf s o.dst (s.eg g f) (xs.map (s.eg g))
 |none=>exec Q s o g
def aC(Q:Program)(cf:CF)(ops:List Oper)(s:S)(o:Oper):Option S:=
 match ay ops o with
 |none=>none
 |some none=>cC Q cf s o none
 |some (some (t,want))=>
  match lk s.tm t with
  |some (.d (.bool b))=>if b==want then cC Q cf s o (some (t,want)) else s.put o.dst .skip
  |some (.when ..)=>s.put o.dst .skip
  |_=>none
def bA(Q:Program)(cf:CF)(ops:List Oper):List Oper->S->Option S
 | [],s=>some s
 |o::r,s=>match aC Q cf ops s o with
  |some s1=>bA Q cf ops r s1
  |none=>none
end Pi
