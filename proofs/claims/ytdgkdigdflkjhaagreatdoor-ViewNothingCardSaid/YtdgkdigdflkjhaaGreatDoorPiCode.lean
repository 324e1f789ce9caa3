/- The text PiCode. -/
import Derived.Test.YtdgkdigdflkjhaaGreatDoorPiEf
namespace Pi
open Go
mutual
def Df(ρ:Nat->Nat->Option (Nat×Nat)):P->P
 | .agg ps=> .agg (nY ρ ps)
 | .dz ps=> .dz (nY ρ ps)
 | .fn f ps=> .fn f (nY ρ ps)
 | .ref n v off=>match ρ n v with |some (n',v')=> .ref n' v' off |none=> .bad
 | .dJ n v i k off=>match ρ n v with |some (n',v')=> .dJ n' v' i k off |none=> .bad
 | .sl n v len=>match ρ n v with |some (n',v')=> .sl n' v' len |none=> .bad
 | .mG n v k off len=>match ρ n v with |some (n',v')=> .mG n' v' k off len |none=> .bad
 | .mp n v=>match ρ n v with |some (n',v')=> .mp n' v' |none=> .bad
 | .when t b p=> .when t b (Df ρ p)
 | .d x=> .d x
 | .fh x off=> .fh x off
 | .bad=> .bad
def nY(ρ:Nat->Nat->Option (Nat×Nat)):List P->List P
 | []=>[]
 |p::ps=>Df ρ p::nY ρ ps
end
def gq(ρ:Nat->Nat->Option (Nat×Nat)):Obj->Obj
 | .box ty ps=> .box ty (nY ρ ps)
 | .kM kt get c p kd=> .kM kt get c (Df ρ p) kd
 |o=>o
def P.qm7:P->List P
 | .agg ps | .dz ps | .fn _ ps=>ps
 | .when _ _ p=>[p]
 |_=>[]
def P.name:P->Option (Nat×Nat)
 | .ref n v _ | .dJ n v _ _ _ | .sl n v _ | .mG n v _ _ _ | .mp n v=>some (n,v)
 |_=>none
def iw:Nat->List Nat->Bool
 |_,[]=>false
 |n,m::r=>Nat.beq n m ||iw n r
def reach(R:List (Nat×En)):Nat->List P->List Nat->List Nat
 |0,_,acc=>acc
 |_,[],acc=>acc
 |k+1,p::ps,acc=>match p.name with
  |none=>reach R k (p.qm7++ps) acc
  |some (n,v)=>if iw n acc then reach R k ps acc else
   match lk R n with
   |some e=>if Nat.beq e.aV v then(match e.obj with
    | .gone=>reach R k ps acc
    | .box _ qs=>reach R k (qs++ps) (acc++[n])
    |_=>reach R k ps (acc++[n])) else reach R k ps acc
   |none=>reach R k ps acc
def posOf:List Nat->Nat->Nat->Option Nat
 | [],_,_=>none
 |m::r,n,i=>if Nat.beq m n then some i else posOf r n (i+1)
def toPos(R:List (Nat×En))(ns:List Nat)(n v:Nat):Option (Nat×Nat):=
 match posOf ns n 0,lk R n with
 |some i,some e=>if Nat.beq e.aV v then some (i,0) else none
 |_,_=>none
def sub(R:List (Nat×En))(ρ:Nat->Nat->Option (Nat×Nat))(tagged:Bool):Nat->List Nat->Option (List (Nat×En))
 |_,[]=>some []
 |i,n::ns=>match lk R n with
  |some e=>match e.obj,sub R ρ tagged (i+1) ns with
   | .gone,_=>none
   |_,some r=>some ((i,⟨0,if tagged then some i else e.tag,gq ρ e.obj⟩)::r)
   |_,none=>none
  |none=>none
def ez:List Nat->Bool
 | []=>true
 |n::r=> !iw n r&&ez r
def sj(ρ:Nat->Nat->Option (Nat×Nat))(keep:List Nat):List (Nat×P)->List (Nat×P)
 | []=>[]
 | (t,p)::r=>if iw t keep then(t,Df ρ p)::sj ρ keep r else sj ρ keep r
def qac(keep:List Nat):List (Nat×P)->List P
 | []=>[]
 | (t,p)::r=>if iw t keep then p::qac keep r else qac keep r
def canon(keep:List Nat)(s:S):Option S:=
 let ns:=reach s.rg 1000 (qac keep s.tm) []
 if ez ns then
  (match sub s.rg (toPos s.rg ns) false 0 ns with
  |some R=>some ⟨s.n,sj (toPos s.rg ns) keep s.tm,R⟩
  |none=>none) else none
abbrev CF:=FuncId->List P->List (Nat×En)->Option (P×List (Nat×En))
def qdK:List P->Bool
 | []=>true
 |p::r=>(match p with | .d _ | .sl _ _ _ | .mG _ _ _ _ _=>true |_=>false)&&qdK r
def lz Q s t (p:P):=
 match p with
 | .agg ps=>if qdK ps then(match oW Q s t (.agg ps) with |some (s1,x)=>some (s1,P.d x)|none=>none) else some (s,.agg ps)
 | .d x=>(match dT Q t&&sg Q t with |true=>(nzD Q t x).force λy=>some (s,.d y)|false=>some (s,.d x))
 |p=>some (s,p)
def qw Q s t (p:P):=
 match p with
 | .sl .. | .mG ..=>(match qu Q s p with |some (s1,x)=>some (s1,P.d x)|none=>none)
 |p=>lz Q s t p
def eN(Q:Program)(s:S)(ts:List TypeId):List P->Option (S×List P)
 | []=>some (s,[])
 |p::ps=>match qw Q s (ts.headD 0) p with
  |none=>none
  |some (s1,q)=>match eN Q s1 ts.tail ps with
   |some (s2,qs)=>some (s2,q::qs)
   |none=>none
def qip(x:String):List String->Bool
 | []=>false
 |y::r=>x==y ||qip x r
def Qc:=["recension/recensionref13.Find", "recension/recensionref13.Within", "recension/recensionref16.Find", "recension/recensionref09.Has", "recension/recensionref09.HasStamp"]
def qiq(Q:Program)(f:FuncId):Bool:=
 match Q.funcs[f]? with
 |some fn=>qip fn.name Qc || !fn.targs.toList.isEmpty&&(fn.origin== "slices.SortFunc" ||fn.origin== "slices.DeleteFunc" ||fn.origin== "slices.Delete" ||fn.origin== "slices.Insert" ||fn.origin== "slices.Reverse" ||fn.origin== "slices.IndexFunc" ||fn.origin== "slices.ContainsFunc" ||fn.origin== "slices.Clone")
 |none=>false
def Tq(Q:Program)(f:FuncId):List TypeId:=match Q.funcs[f]? with |some fn=>fn.params.toList |none=>[]
def cZ Q s f ps:=if qiq Q f then some (s,ps) else eN Q s (Tq Q f) ps
def Tr:List (Nat×En)->Nat->Option Nat
 | [],_=>none
 | (m,e)::r,i=>(match e.tag with |some j=>if Nat.beq i j then some m else Tr r i |none=>Tr r i)
def zt(R1:List (Nat×En))(i:Nat):Option (Nat×En):=
 match Tr R1 i with
 |some m=>(match lk R1 m with
  |some e=>(match e.tag with |some j=>if Nat.beq i j then some (m,e) else none |none=>none)
  |none=>none)
 |none=>none
def ft(R1:List (Nat×En))(R:List (Nat×En))(ns ms:List Nat)(base:Nat)(n v:Nat):Option (Nat×Nat):=
 match lk R1 n with
 |none=>none
 |some e=>if Nat.beq e.aV v then(match e.tag with
  |some i=>(match ns[i]?,zt R1 i with
   |some m,some (n1,_)=>if Nat.beq n1 n then(match lk R m with |some e0=>some (m,e0.aV)|none=>none) else none
   |_,_=>none)
  |none=>(match posOf ms n 0 with
   |some j=>(match lk R (base+j) with |none=>some (base+j,0)|some e0=>some (base+j,e0.aV+1))
   |none=>none)) else none
def gM(R1:List (Nat×En))(σ:Nat->Nat->Option (Nat×Nat)):Nat->List Nat->List (Nat×En)->Option (List (Nat×En))
 |_,[],R=>some R
 |i,n::ns,R=>match lk R n with
  |none=>none
  |some e=>gM R1 σ (i+1) ns (ins n ⟨e.aV,e.tag,match zt R1 i with |some (_,e1)=>gq σ e1.obj |none=> .gone⟩ R)
def lA(R1:List (Nat×En))(σ:Nat->Nat->Option (Nat×Nat)):Nat->List Nat->List (Nat×En)->Option (List (Nat×En))
 |_,[],R=>some R
 |m,n::ns,R=>match lk R1 n with
  |none=>none
  |some e1=>match lk R m with
   |none=>lA R1 σ (m+1) ns (ins m ⟨0,none,gq σ e1.obj⟩ R)
   |some e0=>match e0.obj with
    | .gone=>lA R1 σ (m+1) ns (ins m ⟨e0.aV+1,none,gq σ e1.obj⟩ R)
    |_=>none
def du(R1:List (Nat×En)):List Nat->List Nat
 | []=>[]
 |n::r=>match lk R1 n with
  |some e=>(match e.tag with |none=>n::du R1 r |some _=>du R1 r)
  |none=>du R1 r
def fu(R1:List (Nat×En)):List (Nat×En)->List P
 | []=>[]
 | (_,e)::r=>match e.tag,e.obj with
  |some _,.box _ ps=>ps++fu R1 r
  |_,_=>fu R1 r
def nw Q (cf:CF) s dst (f:P)(args:List P):=
 match f with
 | .fn jZ cW=>match cZ Q s jZ (args++cW) with
  |none=>none
  |some (s1,ps)=>
   let ns:=reach s1.rg 1000 ps []
   if ez ns then(match sub s1.rg (toPos s1.rg ns) true 0 ns with
    |none=>none
    |some R0=>match cf jZ (nY (toPos s1.rg ns) ps) R0 with
     |none=>none
     |some (p,R1)=>
      let ms:=du R1 (reach R1 1000 (p::fu R1 R1) [])
      let σ:=ft R1 s1.rg ns ms (site dst*1000)
      if ez ms&&Nat.ble ms.length 1000 then(match gM R1 σ 0 ns s1.rg with
       |none=>none
       |some R2=>match lA R1 σ (site dst*1000) ms R2 with
        |none=>none
        |some R3=>({s1 with rg:=R3}:S).put dst (Df σ p)) else none) else none
 |_=>none
def br(ops:List Oper)(o:Oper):Option (Option (Nat×Bool)):=
 match o.guard with
 |none=>some none
 |some (j,want)=>match ops[j]? with
  |some oj=>(match oj.dst with |some t=>some (some (t,want))|none=>none)
  |none=>none
def gV(o:Oper):=
 match o.op with
 | .call c=>match c.callee with | .value f=>some (f,c.args.toList)|_=>none
 |_=>none
def gI(Q:Program)(cf:CF)(s:S)(o:Oper)(g:Option (Nat×Bool)):Option S:=
 match gV o with
 |some (f,xs)=>nw Q cf s o.dst (s.eg g f) (xs.map (s.eg g))
 |none=>exec Q s o g
def bu(Q:Program)(cf:CF)(ops:List Oper)(s:S)(o:Oper):Option S:=
 match br ops o with
 |none=>none
 |some none=>gI Q cf s o none
 |some (some (t,want))=>
  match lk s.tm t with
  |some (.d (.bool b))=>if b==want then gI Q cf s o (some (t,want)) else s.put o.dst .skip
  |some (.when ..)=>s.put o.dst .skip
  |_=>none
def dF(Q:Program)(cf:CF)(ops:List Oper):List Oper->S->Option S
 | [],s=>some s
 |o::r,s=>match bu Q cf ops s o with
  |some s1=>dF Q cf ops r s1
  |none=>none
end Pi
