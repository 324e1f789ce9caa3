/- The text PiCode. -/
import Derived.Test.YtfelfooeclnbiaaPiEf
namespace Pi
open Go
mutual
def n6(ρ:Nat->Nat->Option (Nat×Nat)):P->P
 | .agg ps=> .agg (iL ρ ps)
 | .dW ps=> .dW (iL ρ ps)
 | .fn f ps=> .fn f (iL ρ ps)
 | .ref n v off=>match ρ n v with |some (n',v')=> .ref n' v' off |none=> .bad
 | .bG n v i k off=>match ρ n v with |some (n',v')=> .bG n' v' i k off |none=> .bad
 | .sl n v len=>match ρ n v with |some (n',v')=> .sl n' v' len |none=> .bad
 | .eZ n v k off len=>match ρ n v with |some (n',v')=> .eZ n' v' k off len |none=> .bad
 | .mp n v=>match ρ n v with |some (n',v')=> .mp n' v' |none=> .bad
 | .when t b p=> .when t b (n6 ρ p)
 | .d x=> .d x
 | .cl x off=> .cl x off
 | .bad=> .bad
def iL(ρ:Nat->Nat->Option (Nat×Nat)):List P->List P
 | []=>[]
 |p::ps=>n6 ρ p::iL ρ ps
end
def nF(ρ:Nat->Nat->Option (Nat×Nat)):List (D×P)->List (D×P)
 | []=>[]
 | (k,p)::r=>(k,n6 ρ p)::nF ρ r
def Eg:List (D×P)->List P
 | []=>[]
 | (_,p)::r=>p::Eg r
def cF(ρ:Nat->Nat->Option (Nat×Nat)):Obj->Obj
 | .box ty ps=> .box ty (iL ρ ps)
 | .eb kt get c p kd=> .eb kt get c (n6 ρ p) kd
 | .a7 kt es=> .a7 kt (nF ρ es)
 |o=>o
def P.Eh:P->List P
 | .agg ps | .dW ps | .fn _ ps=>ps
 | .when _ _ p=>[p]
 |_=>[]
def P.name:P->Option (Nat×Nat)
 | .ref n v _ | .bG n v _ _ _ | .sl n v _ | .eZ n v _ _ _ | .mp n v=>some (n,v)
 |_=>none
def dR:Nat->List Nat->Bool
 |_,[]=>false
 |n,m::r=>Nat.beq n m ||dR n r
def reach(R:List (Nat×En)):Nat->List P->List Nat->List Nat
 |0,_,acc=>acc
 |_,[],acc=>acc
 |k+1,p::ps,acc=>match p.name with
  |none=>reach R k (p.Eh++ps) acc
  |some (n,v)=>if dR n acc then reach R k ps acc else
   match lk R n with
   |some e=>if Nat.beq e.ay v then(match e.obj with
    | .gone=>reach R k ps acc
    | .box _ qs=>reach R k (qs++ps) (acc++[n])
    | .a7 _ es=>reach R k (Eg es++ps) (acc++[n])
    |_=>reach R k ps (acc++[n])) else reach R k ps acc
   |none=>reach R k ps acc
def posOf:List Nat->Nat->Nat->Option Nat
 | [],_,_=>none
 |m::r,n,i=>if Nat.beq m n then some i else posOf r n (i+1)
def toPos(R:List (Nat×En))(ns:List Nat)(n v:Nat):Option (Nat×Nat):=
 match posOf ns n 0,lk R n with
 |some i,some e=>if Nat.beq e.ay v then some (i,0) else none
 |_,_=>none
def sub(R:List (Nat×En))(ρ:Nat->Nat->Option (Nat×Nat))(tagged:Bool):Nat->List Nat->Option (List (Nat×En))
 |_,[]=>some []
 |i,n::ns=>match lk R n with
  |some e=>match e.obj,sub R ρ tagged (i+1) ns with
   | .gone,_=>none
   |_,some r=>some ((i,⟨0,if tagged then some i else e.tag,cF ρ e.obj⟩)::r)
   |_,none=>none
  |none=>none
def du:List Nat->Bool
 | []=>true
 |n::r=> !dR n r&&du r
def kU(ρ:Nat->Nat->Option (Nat×Nat))(keep:List Nat):List (Nat×P)->List (Nat×P)
 | []=>[]
 | (t,p)::r=>if dR t keep then(t,n6 ρ p)::kU ρ keep r else kU ρ keep r
def yB(keep:List Nat):List (Nat×P)->List P
 | []=>[]
 | (t,p)::r=>if dR t keep then p::yB keep r else yB keep r
def canon(keep:List Nat)(s:S):Option S:=
 let ns:=reach s.rg 1000 (yB keep s.tm) []
 if du ns then
  (match sub s.rg (toPos s.rg ns) false 0 ns with
  |some R=>some ⟨s.n,kU (toPos s.rg ns) keep s.tm,R⟩
  |none=>none) else none
abbrev CF:=FuncId->List P->List (Nat×En)->Option (P×List (Nat×En))
def zY:List P->Bool
 | []=>true
 |p::r=>(match p with | .d _ | .sl _ _ _ | .eZ _ _ _ _ _=>true |_=>false)&&zY r
def eH(Q:Program)(s:S)(t:TypeId)(p:P):Option (S×P):=
 match p with
 | .agg ps=>if zY ps then(match fU Q s t (.agg ps) with |some (s1,x)=>some (s1,P.d x)|none=>none) else some (s,.agg ps)
 | .d x=>(match bB Q t&&iZ Q t with |true=>(Av Q t x).force λy=>some (s,.d y)|false=>some (s,.d x))
 |p=>some (s,p)
def gR(Q:Program)(s:S)(t:TypeId)(p:P):Option (S×P):=
 match p with
 | .sl .. | .eZ ..=>(match gP Q s p with |some (s1,x)=>some (s1,P.d x)|none=>none)
 |p=>eH Q s t p
def bY(Q:Program)(s:S)(ts:List TypeId):List P->Option (S×List P)
 | []=>some (s,[])
 |p::ps=>match gR Q s (ts.headD 0) p with
  |none=>none
  |some (s1,q)=>match bY Q s1 ts.tail ps with
   |some (s2,qs)=>some (s2,q::qs)
   |none=>none
def Cg(x:String):List String->Bool
 | []=>false
 |y::r=>x==y ||Cg x r
def uk:List String:=["recension/recensionref13.Find", "recension/recensionref13.Within", "recension/recensionref16.Find", "recension/recensionref09.Has", "recension/recensionref09.HasStamp"]
def Ch(Q:Program)(f:FuncId):Bool:=
 match Q.funcs[f]? with
 |some fn=>Cg fn.name uk || !fn.targs.toList.isEmpty&&(fn.origin== "slices.SortFunc" ||fn.origin== "slices.DeleteFunc" ||fn.origin== "slices.Delete" ||fn.origin== "slices.Insert" ||fn.origin== "slices.Reverse" ||fn.origin== "slices.IndexFunc" ||fn.origin== "slices.ContainsFunc" ||fn.origin== "slices.Clone")
 |none=>false
def vV(Q:Program)(f:FuncId):List TypeId:=match Q.funcs[f]? with |some fn=>fn.params.toList |none=>[]
def br(Q:Program)(s:S)(f:FuncId)(ps:List P):Option (S×List P):=if Ch Q f then some (s,ps) else bY Q s (vV Q f) ps
def vW:List (Nat×En)->Nat->Option Nat
 | [],_=>none
 | (m,e)::r,i=>(match e.tag with |some j=>if Nat.beq i j then some m else vW r i |none=>vW r i)
def ma(R1:List (Nat×En))(i:Nat):Option (Nat×En):=
 match vW R1 i with
 |some m=>(match lk R1 m with
  |some e=>(match e.tag with |some j=>if Nat.beq i j then some (m,e) else none |none=>none)
  |none=>none)
 |none=>none
def eI(R1:List (Nat×En))(R:List (Nat×En))(ns ms:List Nat)(base:Nat)(n v:Nat):Option (Nat×Nat):=
 match lk R1 n with
 |none=>none
 |some e=>if Nat.beq e.ay v then(match e.tag with
  |some i=>(match ns[i]?,ma R1 i with
   |some m,some (n1,_)=>if Nat.beq n1 n then(match lk R m with |some e0=>some (m,e0.ay)|none=>none) else none
   |_,_=>none)
  |none=>(match posOf ms n 0 with
   |some j=>(match lk R (base+j) with |none=>some (base+j,0)|some e0=>some (base+j,e0.ay+1))
   |none=>none)) else none
def dF(R1:List (Nat×En))(σ:Nat->Nat->Option (Nat×Nat)):Nat->List Nat->List (Nat×En)->Option (List (Nat×En))
 |_,[],R=>some R
 |i,n::ns,R=>match lk R n with
  |none=>none
  |some e=>dF R1 σ (i+1) ns (ins n ⟨e.ay,e.tag,match ma R1 i with |some (_,e1)=>cF σ e1.obj |none=> .gone⟩ R)
def fW(R1:List (Nat×En))(σ:Nat->Nat->Option (Nat×Nat)):Nat->List Nat->List (Nat×En)->Option (List (Nat×En))
 |_,[],R=>some R
 |m,n::ns,R=>match lk R1 n with
  |none=>none
  |some e1=>match lk R m with
   |none=>fW R1 σ (m+1) ns (ins m ⟨0,none,cF σ e1.obj⟩ R)
   |some e0=>match e0.obj with
    | .gone=>fW R1 σ (m+1) ns (ins m ⟨e0.ay+1,none,cF σ e1.obj⟩ R)
    |_=>none
def c6(R1:List (Nat×En)):List Nat->List Nat
 | []=>[]
 |n::r=>match lk R1 n with
  |some e=>(match e.tag with |none=>n::c6 R1 r |some _=>c6 R1 r)
  |none=>c6 R1 r
def fB(R1:List (Nat×En)):List (Nat×En)->List P
 | []=>[]
 | (_,e)::r=>match e.tag,e.obj with
  |some _,.box _ ps=>ps++fB R1 r
  |some _,.a7 _ es=>Eg es++fB R1 r
  |_,_=>fB R1 r
def fj(Q:Program)(cf:CF)(s:S)(dst:Option Nat)(f:P)(args:List P):Option S:=
 match f with
 | .fn gS cn=>match br Q s gS (args++cn) with
  |none=>none
  |some (s1,ps)=>
   let ns:=reach s1.rg 1000 ps []
   if du ns then(match sub s1.rg (toPos s1.rg ns) true 0 ns with
    |none=>none
    |some R0=>match cf gS (iL (toPos s1.rg ns) ps) R0 with
     |none=>none
     |some (p,R1)=>
      let ms:=c6 R1 (reach R1 1000 (p::fB R1 R1) [])
      let σ:=eI R1 s1.rg ns ms (site dst*1000)
      if du ms&&Nat.ble ms.length 1000 then(match dF R1 σ 0 ns s1.rg with
       |none=>none
       |some R2=>match fW R1 σ (site dst*1000) ms R2 with
        |none=>none
        |some R3=>({s1 with rg:=R3}:S).put dst (n6 σ p)) else none) else none
 |_=>none
def aA(ops:List Oper)(o:Oper):Option (Option (Nat×Bool)):=
 match o.guard with
 |none=>some none
 |some (j,want)=>match ops[j]? with
  |some oj=>(match oj.dst with |some t=>some (some (t,want))|none=>none)
  |none=>none
def eJ(o:Oper):Option (Operand×List Operand):=
 match o.op with
 | .call c=>match c.callee with | .value f=>some (f,c.args.toList)|_=>none
 |_=>none
def cG(Q:Program)(cf:CF)(s:S)(o:Oper)(g:Option (Nat×Bool)):Option S:=
 match eJ o with
 |some (f,xs)=>fj Q cf s o.dst (s.eg g f) (xs.map (s.eg g))
 |none=>exec Q s o g
def aE(Q:Program)(cf:CF)(ops:List Oper)(s:S)(o:Oper):Option S:=
 match aA ops o with
 |none=>none
 |some none=>cG Q cf s o none
 |some (some (t,want))=>
  match lk s.tm t with
  |some (.d (.bool b))=>if b==want then cG Q cf s o (some (t,want)) else s.put o.dst .skip
  |some (.when ..)=>s.put o.dst .skip
  |_=>none
def bC(Q:Program)(cf:CF)(ops:List Oper):List Oper->S->Option S
 | [],s=>some s
 |o::r,s=>match aE Q cf ops s o with
  |some s1=>bC Q cf ops r s1
  |none=>none
end Pi
