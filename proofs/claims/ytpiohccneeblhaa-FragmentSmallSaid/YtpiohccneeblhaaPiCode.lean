/- The text PiCode. -/
import Derived.Test.YtpiohccneeblhaaPiEf
namespace Pi
open Go
mutual
def nb(ρ:Nat->Nat->Option (Nat×Nat)):P->P
 | .agg ps=> .agg (iK ρ ps)
 | .fL ps=> .fL (iK ρ ps)
 | .fn f ps=> .fn f (iK ρ ps)
 | .ref n v off=>match ρ n v with |some (n',v')=> .ref n' v' off |none=> .bad
 | .bR n v i k off=>match ρ n v with |some (n',v')=> .bR n' v' i k off |none=> .bad
 | .sl n v len=>match ρ n v with |some (n',v')=> .sl n' v' len |none=> .bad
 | .hZ n v k off len=>match ρ n v with |some (n',v')=> .hZ n' v' k off len |none=> .bad
 | .mp n v=>match ρ n v with |some (n',v')=> .mp n' v' |none=> .bad
 | .hd n v=>match ρ n v with |some (n',v')=> .hd n' v' |none=> .bad
 | .rf n v len=>match ρ n v with |some (n',v')=> .rf n' v' len |none=> .bad
 | .when t b p=> .when t b (nb ρ p)
 | .d x=> .d x
 | .dg x off=> .dg x off
 | .bad=> .bad
 | .raw v=> .raw v
def iK(ρ:Nat->Nat->Option (Nat×Nat)):List P->List P
 | []=>[]
 |p::ps=>nb ρ p::iK ρ ps
end
def oG(ρ:Nat->Nat->Option (Nat×Nat)):List (D×P)->List (D×P)
 | []=>[]
 | (k,p)::r=>(k,nb ρ p)::oG ρ r
def L4(ρ:Nat->Nat->Option (Nat×Nat)):Option (Nat×Nat×P)->Option (Nat×Nat×P)
 |none=>none
 |some (i,j,p)=>some (i,j,nb ρ p)
def Jw(ρ:Nat->Nat->Option (Nat×Nat)):Option (D×P)->Option (D×P)
 |none=>none
 |some (k,p)=>some (k,nb ρ p)
def N9:Option (D×P)->List P
 |none=>[]
 |some (_,p)=>[p]
def dI(ρ:Nat->Nat->Option (Nat×Nat)):Obj->Obj
 | .box ty ps=> .box ty (iK ρ ps)
 | .fZ kt get c p kd=> .fZ kt get c (nb ρ p) kd
 | .bS kt vals n hand=> .bS kt vals n (Jw ρ hand)
 | .bC ty es hand=> .bC ty es (L4 ρ hand)
 |o=>o
def P.L5:P->List P
 | .agg ps | .fL ps | .fn _ ps=>ps
 | .when _ _ p=>[p]
 |_=>[]
def P.name:P->Option (Nat×Nat)
 | .ref n v _ | .bR n v _ _ _ | .sl n v _ | .hZ n v _ _ _ | .mp n v | .hd n v | .rf n v _=>some (n,v)
 |_=>none
def eV:Nat->List Nat->Bool
 |_,[]=>false
 |n,m::r=>Nat.beq n m ||eV n r
def reach(R:List (Nat×En)):Nat->List P->List Nat->List Nat
 |0,_,acc=>acc
 |_,[],acc=>acc
 |k+1,p::ps,acc=>match p.name with
  |none=>reach R k (p.L5++ps) acc
  |some (n,v)=>if eV n acc then reach R k ps acc else
   match lk R n with
   |some e=>if Nat.beq e.az v then(match e.obj with
    | .gone=>reach R k ps acc
    | .box _ qs=>reach R k (qs++ps) (acc++[n])
    | .bS _ _ _ hand=>reach R k (N9 hand++ps) (acc++[n])
    | .bC _ _ (some (_,_,p))=>reach R k (p::ps) (acc++[n])
    |_=>reach R k ps (acc++[n])) else reach R k ps acc
   |none=>reach R k ps acc
def posOf:List Nat->Nat->Nat->Option Nat
 | [],_,_=>none
 |m::r,n,i=>if Nat.beq m n then some i else posOf r n (i+1)
def toPos(R:List (Nat×En))(ns:List Nat)(n v:Nat):Option (Nat×Nat):=
 match posOf ns n 0,lk R n with
 |some i,some e=>if Nat.beq e.az v then some (i,0) else none
 |_,_=>none
def sub(R:List (Nat×En))(ρ:Nat->Nat->Option (Nat×Nat))(tagged:Bool):Nat->List Nat->Option (List (Nat×En))
 |_,[]=>some []
 |i,n::ns=>match lk R n with
  |some e=>match e.obj,sub R ρ tagged (i+1) ns with
   | .gone,_=>none
   |_,some r=>some ((i,⟨0,if tagged then some i else e.tag,dI ρ e.obj⟩)::r)
   |_,none=>none
  |none=>none
def cE:List Nat->Bool
 | []=>true
 |n::r=> !eV n r&&cE r
def lA(ρ:Nat->Nat->Option (Nat×Nat))(keep:List Nat):List (Nat×P)->List (Nat×P)
 | []=>[]
 | (t,p)::r=>if eV t keep then(t,nb ρ p)::lA ρ keep r else lA ρ keep r
def EA(keep:List Nat):List (Nat×P)->List P
 | []=>[]
 | (t,p)::r=>if eV t keep then p::EA keep r else EA keep r
def canon(keep:List Nat)(s:S):Option S:=
 let ns:=reach s.rg 1000 (EA keep s.tm) []
 if cE ns then
  (match sub s.rg (toPos s.rg ns) false 0 ns with
  |some R=>some ⟨s.n,lA (toPos s.rg ns) keep s.tm,R⟩
  |none=>none) else none
abbrev CF:=FuncId->List P->List (Nat×En)->Option (P×List (Nat×En))
def Gb:List P->Bool
 | []=>true
 |p::r=>(match p with | .d _ | .sl _ _ _ | .hZ _ _ _ _ _=>true |_=>false)&&Gb r
def gA(Q:Program)(s:S)(t:TypeId)(p:P):Option (S×P):=
 match p with
 | .agg ps=>if Gb ps then(match jh Q s t (.agg ps) with |some (s1,x)=>some (s1,P.d x)|none=>none) else some (s,.agg ps)
 | .d x=>(match cd Q t&&lz Q t with |true=>(GR Q t x).force λy=>some (s,.d y)|false=>some (s,.d x))
 |p=>some (s,p)
def ke(Q:Program)(s:S)(t:TypeId)(p:P):Option (S×P):=
 match p with
 | .sl .. | .hZ ..=>(match kb Q s p with |some (s1,x)=>some (s1,P.d x)|none=>none)
 |p=>gA Q s t p
def cU(Q:Program)(s:S)(ts:List TypeId):List P->Option (S×List P)
 | []=>some (s,[])
 |p::ps=>match ke Q s (ts.headD 0) p with
  |none=>none
  |some (s1,q)=>match cU Q s1 ts.tail ps with
   |some (s2,qs)=>some (s2,q::qs)
   |none=>none
def Jx(x:String):List String->Bool
 | []=>false
 |y::r=>x==y ||Jx x r
def zU:List String:=["recension/recensionref13.Find", "recension/recensionref13.Within", "recension/recensionref16.Find", "recension/recensionref09.Has", "recension/recensionref09.HasStamp"]
def Jy(Q:Program)(f:FuncId):Bool:=
 match Q.funcs[f]? with
 |some fn=>Jx fn.name zU || !fn.targs.toList.isEmpty&&(fn.origin== "slices.SortFunc" ||fn.origin== "slices.DeleteFunc" ||fn.origin== "slices.Delete" ||fn.origin== "slices.Insert" ||fn.origin== "slices.Reverse" ||fn.origin== "slices.IndexFunc" ||fn.origin== "slices.ContainsFunc" ||fn.origin== "slices.Clone")
 |none=>false
def BL(Q:Program)(f:FuncId):List TypeId:=match Q.funcs[f]? with |some fn=>fn.params.toList |none=>[]
def bL(Q:Program)(s:S)(f:FuncId)(ps:List P):Option (S×List P):=if Jy Q f then some (s,ps) else cU Q s (BL Q f) ps
def BM:List (Nat×En)->Nat->Option Nat
 | [],_=>none
 | (m,e)::r,i=>(match e.tag with |some j=>if Nat.beq i j then some m else BM r i |none=>BM r i)
def kg(R1:List (Nat×En))(i:Nat):Option (Nat×En):=
 match BM R1 i with
 |some m=>(match lk R1 m with
  |some e=>(match e.tag with |some j=>if Nat.beq i j then some (m,e) else none |none=>none)
  |none=>none)
 |none=>none
def dm(R1:List (Nat×En))(R:List (Nat×En))(ns ms:List Nat)(base:Nat)(n v:Nat):Option (Nat×Nat):=
 match lk R1 n with
 |none=>none
 |some e=>if Nat.beq e.az v then(match e.tag with
  |some i=>(match ns[i]?,kg R1 i with
   |some m,some (n1,_)=>if Nat.beq n1 n then(match lk R m with |some e0=>some (m,e0.az)|none=>none) else none
   |_,_=>none)
  |none=>(match posOf ms n 0 with
   |some j=>(match lk R (base+j) with |none=>some (base+j,0)|some e0=>some (base+j,e0.az+1))
   |none=>none)) else none
def dO(R1:List (Nat×En))(σ:Nat->Nat->Option (Nat×Nat)):Nat->List Nat->List (Nat×En)->Option (List (Nat×En))
 |_,[],R=>some R
 |i,n::ns,R=>match lk R n with
  |none=>none
  |some e=>dO R1 σ (i+1) ns (ins n ⟨e.az,e.tag,match kg R1 i with |some (_,e1)=>dI σ e1.obj |none=> .gone⟩ R)
def gB(R1:List (Nat×En))(σ:Nat->Nat->Option (Nat×Nat)):Nat->List Nat->List (Nat×En)->Option (List (Nat×En))
 |_,[],R=>some R
 |m,n::ns,R=>match lk R1 n with
  |none=>none
  |some e1=>match lk R m with
   |none=>gB R1 σ (m+1) ns (ins m ⟨0,none,dI σ e1.obj⟩ R)
   |some e0=>match e0.obj with
    | .gone=>gB R1 σ (m+1) ns (ins m ⟨e0.az+1,none,dI σ e1.obj⟩ R)
    |_=>none
def bV(R1:List (Nat×En)):List Nat->List Nat
 | []=>[]
 |n::r=>match lk R1 n with
  |some e=>(match e.tag with |none=>n::bV R1 r |some _=>bV R1 r)
  |none=>bV R1 r
def cF(R1:List (Nat×En)):List (Nat×En)->List P
 | []=>[]
 | (_,e)::r=>match e.tag,e.obj with
  |some _,.box _ ps=>ps++cF R1 r
  |some _,.bS _ _ _ hand=>N9 hand++cF R1 r
  |some _,.bC _ _ (some (_,_,p))=>p::cF R1 r
  |_,_=>cF R1 r
def iA(Q:Program)(cf:CF)(s:S)(dst:Option Nat)(f:P)(args:List P):Option S:=
 match f with
 | .fn fN bH=>match bL Q s fN (args++bH) with
  |none=>none
  |some (s1,ps)=>
   let ns:=reach s1.rg 1000 ps []
   if cE ns then(match sub s1.rg (toPos s1.rg ns) true 0 ns with
    |none=>none
    |some R0=>match cf fN (iK (toPos s1.rg ns) ps) R0 with
     |none=>none
     |some (p,R1)=>
      let ms:=bV R1 (reach R1 1000 (p::cF R1 R1) [])
      let σ:=dm R1 s1.rg ns ms (site dst*1000)
      if cE ms&&Nat.ble ms.length 1000 then(match dO R1 σ 0 ns s1.rg with
       |none=>none
       |some R2=>match gB R1 σ (site dst*1000) ms R2 with
        |none=>none
        |some R3=>({s1 with rg:=R3}:S).put dst (nb σ p)) else none) else none
 |_=>none
def aG(ops:List Oper)(o:Oper):Option (Option (Nat×Bool)):=
 match o.guard with
 |none=>some none
 |some (j,want)=>match ops[j]? with
  |some oj=>(match oj.dst with |some t=>some (some (t,want))|none=>none)
  |none=>none
def dU(o:Oper):Option (Operand×List Operand):=
 match o.op with
 | .call c=>match c.callee with | .value f=>some (f,c.args.toList)|_=>none
 |_=>none
def dL(Q:Program)(cf:CF)(s:S)(o:Oper)(g:Option (Nat×Bool)):Option S:=
 match dU o with
 |some (f,xs)=>iA Q cf s o.dst (s.eg g f) (xs.map (s.eg g))
 |none=>exec Q s o g
def aM(Q:Program)(cf:CF)(ops:List Oper)(s:S)(o:Oper):Option S:=
 match aG ops o with
 |none=>none
 |some none=>dL Q cf s o none
 |some (some (t,want))=>
  match lk s.tm t with
  |some (.d (.bool b))=>if b==want then dL Q cf s o (some (t,want)) else s.put o.dst .skip
  |some (.when ..)=>s.put o.dst .skip
  |_=>none
def cn(Q:Program)(cf:CF)(ops:List Oper):List Oper->S->Option S
 | [],s=>some s
 |o::r,s=>match aM Q cf ops s o with
  |some s1=>cn Q cf ops r s1
  |none=>none
end Pi
