/- The text PiCode. -/
import Derived.Test.YtfelfooeclnbiaaGreatDoorPiEf
namespace Pi
open Go
mutual
def Ar(ρ:Nat->Nat->Option (Nat×Nat)):P->P
 | .agg ps=> .agg (mr ρ ps)
 | .bI ps=> .bI (mr ρ ps)
 | .fn f ps=> .fn f (mr ρ ps)
 | .ref n v off=>match ρ n v with |some (n',v')=> .ref n' v' off |none=> .bad
 | .dj n v i k off=>match ρ n v with |some (n',v')=> .dj n' v' i k off |none=> .bad
 | .sl n v len=>match ρ n v with |some (n',v')=> .sl n' v' len |none=> .bad
 | .lu n v k off len=>match ρ n v with |some (n',v')=> .lu n' v' k off len |none=> .bad
 | .mp n v=>match ρ n v with |some (n',v')=> .mp n' v' |none=> .bad
 | .when t b p=> .when t b (Ar ρ p)
 | .d x=> .d x
 | .eX x off=> .eX x off
 | .bad=> .bad
def mr(ρ:Nat->Nat->Option (Nat×Nat)):List P->List P
 | []=>[]
 |p::ps=>Ar ρ p::mr ρ ps
end
def fT(ρ:Nat->Nat->Option (Nat×Nat)):Obj->Obj
 | .box ty ps=> .box ty (mr ρ ps)
 | .jV kt get c p kd=> .jV kt get c (Ar ρ p) kd
 |o=>o
def P.qhz:P->List P
 | .agg ps | .bI ps | .fn _ ps=>ps
 | .when _ _ p=>[p]
 |_=>[]
def P.name:P->Option (Nat×Nat)
 | .ref n v _ | .dj n v _ _ _ | .sl n v _ | .lu n v _ _ _ | .mp n v=>some (n,v)
 |_=>none
def jE:Nat->List Nat->Bool
 |_,[]=>false
 |n,m::r=>Nat.beq n m ||jE n r
def reach(R:List (Nat×En)):Nat->List P->List Nat->List Nat
 |0,_,acc=>acc
 |_,[],acc=>acc
 |k+1,p::ps,acc=>match p.name with
  |none=>reach R k (p.qhz++ps) acc
  |some (n,v)=>if jE n acc then reach R k ps acc else
   match lk R n with
   |some e=>if Nat.beq e.aR v then(match e.obj with
    | .gone=>reach R k ps acc
    | .box _ qs=>reach R k (qs++ps) (acc++[n])
    |_=>reach R k ps (acc++[n])) else reach R k ps acc
   |none=>reach R k ps acc
def posOf:List Nat->Nat->Nat->Option Nat
 | [],_,_=>none
 |m::r,n,i=>if Nat.beq m n then some i else posOf r n (i+1)
def toPos(R:List (Nat×En))(ns:List Nat)(n v:Nat):Option (Nat×Nat):=
 match posOf ns n 0,lk R n with
 |some i,some e=>if Nat.beq e.aR v then some (i,0) else none
 |_,_=>none
def sub(R:List (Nat×En))(ρ:Nat->Nat->Option (Nat×Nat))(tagged:Bool):Nat->List Nat->Option (List (Nat×En))
 |_,[]=>some []
 |i,n::ns=>match lk R n with
  |some e=>match e.obj,sub R ρ tagged (i+1) ns with
   | .gone,_=>none
   |_,some r=>some ((i,⟨0,if tagged then some i else e.tag,fT ρ e.obj⟩)::r)
   |_,none=>none
  |none=>none
def dJ:List Nat->Bool
 | []=>true
 |n::r=> !jE n r&&dJ r
def qG(ρ:Nat->Nat->Option (Nat×Nat))(keep:List Nat):List (Nat×P)->List (Nat×P)
 | []=>[]
 | (t,p)::r=>if jE t keep then(t,Ar ρ p)::qG ρ keep r else qG ρ keep r
def VX(keep:List Nat):List (Nat×P)->List P
 | []=>[]
 | (t,p)::r=>if jE t keep then p::VX keep r else VX keep r
def canon(keep:List Nat)(s:S):Option S:=
 let ns:=reach s.rg 1000 (VX keep s.tm) []
 if dJ ns then
  (match sub s.rg (toPos s.rg ns) false 0 ns with
  |some R=>some ⟨s.n,qG (toPos s.rg ns) keep s.tm,R⟩
  |none=>none) else none
abbrev CF:=FuncId->List P->List (Nat×En)->Option (P×List (Nat×En))
def qaR:List P->Bool
 | []=>true
 |p::r=>(match p with | .d _ | .sl _ _ _ | .lu _ _ _ _ _=>true |_=>false)&&qaR r
def kC(Q:Program)(s:S)(t:TypeId)(p:P):Option (S×P):=
 match p with
 | .agg ps=>if qaR ps then(match nq Q s t (.agg ps) with |some (s1,x)=>some (s1,P.d x)|none=>none) else some (s,.agg ps)
 | .d x=>(match dx Q t&&qF Q t with |true=>(nzD Q t x).force λy=>some (s,.d y)|false=>some (s,.d x))
 |p=>some (s,p)
def o8(Q:Program)(s:S)(t:TypeId)(p:P):Option (S×P):=
 match p with
 | .sl .. | .lu ..=>(match o6 Q s p with |some (s1,x)=>some (s1,P.d x)|none=>none)
 |p=>kC Q s t p
def ep(Q:Program)(s:S)(ts:List TypeId):List P->Option (S×List P)
 | []=>some (s,[])
 |p::ps=>match o8 Q s (ts.headD 0) p with
  |none=>none
  |some (s1,q)=>match ep Q s1 ts.tail ps with
   |some (s2,qs)=>some (s2,q::qs)
   |none=>none
def qfd(x:String):List String->Bool
 | []=>false
 |y::r=>x==y ||qfd x r
def L0:List String:=["recension/recensionref13.Find", "recension/recensionref13.Within", "recension/recensionref16.Find", "recension/recensionref09.Has", "recension/recensionref09.HasStamp"]
def qfe(Q:Program)(f:FuncId):Bool:=
 match Q.funcs[f]? with
 |some fn=>qfd fn.name L0 || !fn.targs.toList.isEmpty&&(fn.origin== "slices.SortFunc" ||fn.origin== "slices.DeleteFunc" ||fn.origin== "slices.Delete" ||fn.origin== "slices.Insert" ||fn.origin== "slices.Reverse" ||fn.origin== "slices.IndexFunc" ||fn.origin== "slices.ContainsFunc" ||fn.origin== "slices.Clone")
 |none=>false
def OY(Q:Program)(f:FuncId):List TypeId:=match Q.funcs[f]? with |some fn=>fn.params.toList |none=>[]
def cL(Q:Program)(s:S)(f:FuncId)(ps:List P):Option (S×List P):=if qfe Q f then some (s,ps) else ep Q s (OY Q f) ps
def OZ:List (Nat×En)->Nat->Option Nat
 | [],_=>none
 | (m,e)::r,i=>(match e.tag with |some j=>if Nat.beq i j then some m else OZ r i |none=>OZ r i)
def w6(R1:List (Nat×En))(i:Nat):Option (Nat×En):=
 match OZ R1 i with
 |some m=>(match lk R1 m with
  |some e=>(match e.tag with |some j=>if Nat.beq i j then some (m,e) else none |none=>none)
  |none=>none)
 |none=>none
def fc(R1:List (Nat×En))(R:List (Nat×En))(ns ms:List Nat)(base:Nat)(n v:Nat):Option (Nat×Nat):=
 match lk R1 n with
 |none=>none
 |some e=>if Nat.beq e.aR v then(match e.tag with
  |some i=>(match ns[i]?,w6 R1 i with
   |some m,some (n1,_)=>if Nat.beq n1 n then(match lk R m with |some e0=>some (m,e0.aR)|none=>none) else none
   |_,_=>none)
  |none=>(match posOf ms n 0 with
   |some j=>(match lk R (base+j) with |none=>some (base+j,0)|some e0=>some (base+j,e0.aR+1))
   |none=>none)) else none
def gm(R1:List (Nat×En))(σ:Nat->Nat->Option (Nat×Nat)):Nat->List Nat->List (Nat×En)->Option (List (Nat×En))
 |_,[],R=>some R
 |i,n::ns,R=>match lk R n with
  |none=>none
  |some e=>gm R1 σ (i+1) ns (ins n ⟨e.aR,e.tag,match w6 R1 i with |some (_,e1)=>fT σ e1.obj |none=> .gone⟩ R)
def kD(R1:List (Nat×En))(σ:Nat->Nat->Option (Nat×Nat)):Nat->List Nat->List (Nat×En)->Option (List (Nat×En))
 |_,[],R=>some R
 |m,n::ns,R=>match lk R1 n with
  |none=>none
  |some e1=>match lk R m with
   |none=>kD R1 σ (m+1) ns (ins m ⟨0,none,fT σ e1.obj⟩ R)
   |some e0=>match e0.obj with
    | .gone=>kD R1 σ (m+1) ns (ins m ⟨e0.aR+1,none,fT σ e1.obj⟩ R)
    |_=>none
def cX(R1:List (Nat×En)):List Nat->List Nat
 | []=>[]
 |n::r=>match lk R1 n with
  |some e=>(match e.tag with |none=>n::cX R1 r |some _=>cX R1 r)
  |none=>cX R1 r
def fe(R1:List (Nat×En)):List (Nat×En)->List P
 | []=>[]
 | (_,e)::r=>match e.tag,e.obj with
  |some _,.box _ ps=>ps++fe R1 r
  |_,_=>fe R1 r
def lX(Q:Program)(cf:CF)(s:S)(dst:Option Nat)(f:P)(args:List P):Option S:=
 match f with
 | .fn kF cF=>match cL Q s kF (args++cF) with
  |none=>none
  |some (s1,ps)=>
   let ns:=reach s1.rg 1000 ps []
   if dJ ns then(match sub s1.rg (toPos s1.rg ns) true 0 ns with
    |none=>none
    |some R0=>match cf kF (mr (toPos s1.rg ns) ps) R0 with
     |none=>none
     |some (p,R1)=>
      let ms:=cX R1 (reach R1 1000 (p::fe R1 R1) [])
      let σ:=fc R1 s1.rg ns ms (site dst*1000)
      if dJ ms&&Nat.ble ms.length 1000 then(match gm R1 σ 0 ns s1.rg with
       |none=>none
       |some R2=>match kD R1 σ (site dst*1000) ms R2 with
        |none=>none
        |some R3=>({s1 with rg:=R3}:S).put dst (Ar σ p)) else none) else none
 |_=>none
def bf(ops:List Oper)(o:Oper):Option (Option (Nat×Bool)):=
 match o.guard with
 |none=>some none
 |some (j,want)=>match ops[j]? with
  |some oj=>(match oj.dst with |some t=>some (some (t,want))|none=>none)
  |none=>none
def gx(o:Oper):Option (Operand×List Operand):=
 match o.op with
 | .call c=>match c.callee with | .value f=>some (f,c.args.toList)|_=>none
 |_=>none
def ga(Q:Program)(cf:CF)(s:S)(o:Oper)(g:Option (Nat×Bool)):Option S:=
 match gx o with
 |some (f,xs)=>lX Q cf s o.dst (s.eg g f) (xs.map (s.eg g))
 |none=>exec Q s o g
def bj(Q:Program)(cf:CF)(ops:List Oper)(s:S)(o:Oper):Option S:=
 match bf ops o with
 |none=>none
 |some none=>ga Q cf s o none
 |some (some (t,want))=>
  match lk s.tm t with
  |some (.d (.bool b))=>if b==want then ga Q cf s o (some (t,want)) else s.put o.dst .skip
  |some (.when ..)=>s.put o.dst .skip
  |_=>none
def de(Q:Program)(cf:CF)(ops:List Oper):List Oper->S->Option S
 | [],s=>some s
 |o::r,s=>match bj Q cf ops s o with
  |some s1=>de Q cf ops r s1
  |none=>none
end Pi
