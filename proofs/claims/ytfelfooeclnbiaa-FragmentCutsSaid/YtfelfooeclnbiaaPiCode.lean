/- The text PiCode. -/
import Derived.Test.YtfelfooeclnbiaaPiEf
namespace Pi
open Go
mutual
def np(ρ:Nat->Nat->Option (Nat×Nat)):P->P
 | .agg ps=> .agg (ic ρ ps)
 | .dR ps=> .dR (ic ρ ps)
 | .fn f ps=> .fn f (ic ρ ps)
 | .ref n v off=>match ρ n v with |some (n',v')=> .ref n' v' off |none=> .bad
 | .bs n v i k off=>match ρ n v with |some (n',v')=> .bs n' v' i k off |none=> .bad
 | .sl n v len=>match ρ n v with |some (n',v')=> .sl n' v' len |none=> .bad
 | .eL n v k off len=>match ρ n v with |some (n',v')=> .eL n' v' k off len |none=> .bad
 | .mp n v=>match ρ n v with |some (n',v')=> .mp n' v' |none=> .bad
 | .when t b p=> .when t b (np ρ p)
 | .d x=> .d x
 | .bT x off=> .bT x off
 | .bad=> .bad
def ic(ρ:Nat->Nat->Option (Nat×Nat)):List P->List P
 | []=>[]
 |p::ps=>np ρ p::ic ρ ps
end
def mM(ρ:Nat->Nat->Option (Nat×Nat)):List (D×P)->List (D×P)
 | []=>[]
 | (k,p)::r=>(k,np ρ p)::mM ρ r
def BF:List (D×P)->List P
 | []=>[]
 | (_,p)::r=>p::BF r
def cq(ρ:Nat->Nat->Option (Nat×Nat)):Obj->Obj
 | .box ty ps=> .box ty (ic ρ ps)
 | .dS kt get c p kd=> .dS kt get c (np ρ p) kd
 | .cb kt es=> .cb kt (mM ρ es)
 |o=>o
def P.BG:P->List P
 | .agg ps | .dR ps | .fn _ ps=>ps
 | .when _ _ p=>[p]
 |_=>[]
def P.name:P->Option (Nat×Nat)
 | .ref n v _ | .bs n v _ _ _ | .sl n v _ | .eL n v _ _ _ | .mp n v=>some (n,v)
 |_=>none
def dJ:Nat->List Nat->Bool
 |_,[]=>false
 |n,m::r=>Nat.beq n m ||dJ n r
def reach(R:List (Nat×En)):Nat->List P->List Nat->List Nat
 |0,_,acc=>acc
 |_,[],acc=>acc
 |k+1,p::ps,acc=>match p.name with
  |none=>reach R k (p.BG++ps) acc
  |some (n,v)=>if dJ n acc then reach R k ps acc else
   match lk R n with
   |some e=>if Nat.beq e.aw v then(match e.obj with
    | .gone=>reach R k ps acc
    | .box _ qs=>reach R k (qs++ps) (acc++[n])
    | .cb _ es=>reach R k (BF es++ps) (acc++[n])
    |_=>reach R k ps (acc++[n])) else reach R k ps acc
   |none=>reach R k ps acc
def posOf:List Nat->Nat->Nat->Option Nat
 | [],_,_=>none
 |m::r,n,i=>if Nat.beq m n then some i else posOf r n (i+1)
def toPos(R:List (Nat×En))(ns:List Nat)(n v:Nat):Option (Nat×Nat):=
 match posOf ns n 0,lk R n with
 |some i,some e=>if Nat.beq e.aw v then some (i,0) else none
 |_,_=>none
def sub(R:List (Nat×En))(ρ:Nat->Nat->Option (Nat×Nat))(tagged:Bool):Nat->List Nat->Option (List (Nat×En))
 |_,[]=>some []
 |i,n::ns=>match lk R n with
  |some e=>match e.obj,sub R ρ tagged (i+1) ns with
   | .gone,_=>none
   |_,some r=>some ((i,⟨0,if tagged then some i else e.tag,cq ρ e.obj⟩)::r)
   |_,none=>none
  |none=>none
def df:List Nat->Bool
 | []=>true
 |n::r=> !dJ n r&&df r
def kg(ρ:Nat->Nat->Option (Nat×Nat))(keep:List Nat):List (Nat×P)->List (Nat×P)
 | []=>[]
 | (t,p)::r=>if dJ t keep then(t,np ρ p)::kg ρ keep r else kg ρ keep r
def wU(keep:List Nat):List (Nat×P)->List P
 | []=>[]
 | (t,p)::r=>if dJ t keep then p::wU keep r else wU keep r
def canon(keep:List Nat)(s:S):Option S:=
 let ns:=reach s.rg 1000 (wU keep s.tm) []
 if df ns then
  (match sub s.rg (toPos s.rg ns) false 0 ns with
  |some R=>some ⟨s.n,kg (toPos s.rg ns) keep s.tm,R⟩
  |none=>none) else none
abbrev CF:=FuncId->List P->List (Nat×En)->Option (P×List (Nat×En))
def x7:List P->Bool
 | []=>true
 |p::r=>(match p with | .d _ | .sl _ _ _ | .eL _ _ _ _ _=>true |_=>false)&&x7 r
def ek(Q:Program)(s:S)(t:TypeId)(p:P):Option (S×P):=
 match p with
 | .agg ps=>if x7 ps then(match fE Q s t (.agg ps) with |some (s1,x)=>some (s1,P.d x)|none=>none) else some (s,.agg ps)
 | .d x=>(match bt Q t&&iv Q t with |true=>(yu Q t x).force λy=>some (s,.d y)|false=>some (s,.d x))
 |p=>some (s,p)
def gy(Q:Program)(s:S)(t:TypeId)(p:P):Option (S×P):=
 match p with
 | .sl .. | .eL ..=>(match gw Q s p with |some (s1,x)=>some (s1,P.d x)|none=>none)
 |p=>ek Q s t p
def bN(Q:Program)(s:S)(ts:List TypeId):List P->Option (S×List P)
 | []=>some (s,[])
 |p::ps=>match gy Q s (ts.headD 0) p with
  |none=>none
  |some (s1,q)=>match bN Q s1 ts.tail ps with
   |some (s2,qs)=>some (s2,q::qs)
   |none=>none
def Ac(x:String):List String->Bool
 | []=>false
 |y::r=>x==y ||Ac x r
def sO:List String:=["recension/recensionref13.Find", "recension/recensionref13.Within", "recension/recensionref16.Find", "recension/recensionref09.Has", "recension/recensionref09.HasStamp"]
def Ad(Q:Program)(f:FuncId):Bool:=
 match Q.funcs[f]? with
 |some fn=>Ac fn.name sO || !fn.targs.toList.isEmpty&&(fn.origin== "slices.SortFunc" ||fn.origin== "slices.DeleteFunc" ||fn.origin== "slices.Delete" ||fn.origin== "slices.Insert" ||fn.origin== "slices.Reverse" ||fn.origin== "slices.IndexFunc" ||fn.origin== "slices.ContainsFunc" ||fn.origin== "slices.Clone")
 |none=>false
def ux(Q:Program)(f:FuncId):List TypeId:=match Q.funcs[f]? with |some fn=>fn.params.toList |none=>[]
def bd(Q:Program)(s:S)(f:FuncId)(ps:List P):Option (S×List P):=if Ad Q f then some (s,ps) else bN Q s (ux Q f) ps
def uy:List (Nat×En)->Nat->Option Nat
 | [],_=>none
 | (m,e)::r,i=>(match e.tag with |some j=>if Nat.beq i j then some m else uy r i |none=>uy r i)
def lB(R1:List (Nat×En))(i:Nat):Option (Nat×En):=
 match uy R1 i with
 |some m=>(match lk R1 m with
  |some e=>(match e.tag with |some j=>if Nat.beq i j then some (m,e) else none |none=>none)
  |none=>none)
 |none=>none
def eo(R1:List (Nat×En))(R:List (Nat×En))(ns ms:List Nat)(base:Nat)(n v:Nat):Option (Nat×Nat):=
 match lk R1 n with
 |none=>none
 |some e=>if Nat.beq e.aw v then(match e.tag with
  |some i=>(match ns[i]?,lB R1 i with
   |some m,some (n1,_)=>if Nat.beq n1 n then(match lk R m with |some e0=>some (m,e0.aw)|none=>none) else none
   |_,_=>none)
  |none=>(match posOf ms n 0 with
   |some j=>(match lk R (base+j) with |none=>some (base+j,0)|some e0=>some (base+j,e0.aw+1))
   |none=>none)) else none
def dx(R1:List (Nat×En))(σ:Nat->Nat->Option (Nat×Nat)):Nat->List Nat->List (Nat×En)->Option (List (Nat×En))
 |_,[],R=>some R
 |i,n::ns,R=>match lk R n with
  |none=>none
  |some e=>dx R1 σ (i+1) ns (ins n ⟨e.aw,e.tag,match lB R1 i with |some (_,e1)=>cq σ e1.obj |none=> .gone⟩ R)
def fG(R1:List (Nat×En))(σ:Nat->Nat->Option (Nat×Nat)):Nat->List Nat->List (Nat×En)->Option (List (Nat×En))
 |_,[],R=>some R
 |m,n::ns,R=>match lk R1 n with
  |none=>none
  |some e1=>match lk R m with
   |none=>fG R1 σ (m+1) ns (ins m ⟨0,none,cq σ e1.obj⟩ R)
   |some e0=>match e0.obj with
    | .gone=>fG R1 σ (m+1) ns (ins m ⟨e0.aw+1,none,cq σ e1.obj⟩ R)
    |_=>none
def cO(R1:List (Nat×En)):List Nat->List Nat
 | []=>[]
 |n::r=>match lk R1 n with
  |some e=>(match e.tag with |none=>n::cO R1 r |some _=>cO R1 r)
  |none=>cO R1 r
def fg(R1:List (Nat×En)):List (Nat×En)->List P
 | []=>[]
 | (_,e)::r=>match e.tag,e.obj with
  |some _,.box _ ps=>ps++fg R1 r
  |some _,.cb _ es=>BF es++fg R1 r
  |_,_=>fg R1 r
def eX(Q:Program)(cf:CF)(s:S)(dst:Option Nat)(f:P)(args:List P):Option S:=
 match f with
 | .fn gA bV=>match bd Q s gA (args++bV) with
  |none=>none
  |some (s1,ps)=>
   let ns:=reach s1.rg 1000 ps []
   if df ns then(match sub s1.rg (toPos s1.rg ns) true 0 ns with
    |none=>none
    |some R0=>match cf gA (ic (toPos s1.rg ns) ps) R0 with
     |none=>none
     |some (p,R1)=>
      let ms:=cO R1 (reach R1 1000 (p::fg R1 R1) [])
      let σ:=eo R1 s1.rg ns ms (site dst*1000)
      if df ms&&Nat.ble ms.length 1000 then(match dx R1 σ 0 ns s1.rg with
       |none=>none
       |some R2=>match fG R1 σ (site dst*1000) ms R2 with
        |none=>none
        |some R3=>({s1 with rg:=R3}:S).put dst (np σ p)) else none) else none
 |_=>none
def az(ops:List Oper)(o:Oper):Option (Option (Nat×Bool)):=
 match o.guard with
 |none=>some none
 |some (j,want)=>match ops[j]? with
  |some oj=>(match oj.dst with |some t=>some (some (t,want))|none=>none)
  |none=>none
def ep(o:Oper):Option (Operand×List Operand):=
 match o.op with
 | .call c=>match c.callee with | .value f=>some (f,c.args.toList)|_=>none
 |_=>none
def ct(Q:Program)(cf:CF)(s:S)(o:Oper)(g:Option (Nat×Bool)):Option S:=
 match ep o with
 |some (f,xs)=>eX Q cf s o.dst (s.eg g f) (xs.map (s.eg g))
 |none=>exec Q s o g
def aC(Q:Program)(cf:CF)(ops:List Oper)(s:S)(o:Oper):Option S:=
 match az ops o with
 |none=>none
 |some none=>ct Q cf s o none
 |some (some (t,want))=>
  match lk s.tm t with
  |some (.d (.bool b))=>if b==want then ct Q cf s o (some (t,want)) else s.put o.dst .skip
  |some (.when ..)=>s.put o.dst .skip
  |_=>none
def bp(Q:Program)(cf:CF)(ops:List Oper):List Oper->S->Option S
 | [],s=>some s
 |o::r,s=>match aC Q cf ops s o with
  |some s1=>bp Q cf ops r s1
  |none=>none
end Pi
