/- The text PiCode. -/
import Derived.Test.YtpiohccneeblhaaPiEf
namespace Pi
open Go
mutual
def mY(ρ:Nat->Nat->Option (Nat×Nat)):P->P
 | .agg ps=> .agg (iK ρ ps)
 | .fL ps=> .fL (iK ρ ps)
 | .fn f ps=> .fn f (iK ρ ps)
 | .ref n v off=>match ρ n v with |some (n',v')=> .ref n' v' off |none=> .bad
 | .bP n v i k off=>match ρ n v with |some (n',v')=> .bP n' v' i k off |none=> .bad
 | .sl n v len=>match ρ n v with |some (n',v')=> .sl n' v' len |none=> .bad
 | .hZ n v k off len=>match ρ n v with |some (n',v')=> .hZ n' v' k off len |none=> .bad
 | .mp n v=>match ρ n v with |some (n',v')=> .mp n' v' |none=> .bad
 | .hd n v=>match ρ n v with |some (n',v')=> .hd n' v' |none=> .bad
 | .rT n v len=>match ρ n v with |some (n',v')=> .rT n' v' len |none=> .bad
 | .when t b p=> .when t b (mY ρ p)
 | .d x=> .d x
 | .dg x off=> .dg x off
 | .bad=> .bad
 | .raw v=> .raw v
def iK(ρ:Nat->Nat->Option (Nat×Nat)):List P->List P
 | []=>[]
 |p::ps=>mY ρ p::iK ρ ps
end
def oF(ρ:Nat->Nat->Option (Nat×Nat)):List (D×P)->List (D×P)
 | []=>[]
 | (k,p)::r=>(k,mY ρ p)::oF ρ r
def Lz(ρ:Nat->Nat->Option (Nat×Nat)):Option (Nat×Nat×P)->Option (Nat×Nat×P)
 |none=>none
 |some (i,j,p)=>some (i,j,mY ρ p)
def I2(ρ:Nat->Nat->Option (Nat×Nat)):Option (D×P)->Option (D×P)
 |none=>none
 |some (k,p)=>some (k,mY ρ p)
def Nz:Option (D×P)->List P
 |none=>[]
 |some (_,p)=>[p]
def dH(ρ:Nat->Nat->Option (Nat×Nat)):Obj->Obj
 | .box ty ps=> .box ty (iK ρ ps)
 | .fY kt get c p kd=> .fY kt get c (mY ρ p) kd
 | .bQ kt vals n hand=> .bQ kt vals n (I2 ρ hand)
 | .bA ty es hand=> .bA ty es (Lz ρ hand)
 |o=>o
def P.LA:P->List P
 | .agg ps | .fL ps | .fn _ ps=>ps
 | .when _ _ p=>[p]
 |_=>[]
def P.name:P->Option (Nat×Nat)
 | .ref n v _ | .bP n v _ _ _ | .sl n v _ | .hZ n v _ _ _ | .mp n v | .hd n v | .rT n v _=>some (n,v)
 |_=>none
def eV:Nat->List Nat->Bool
 |_,[]=>false
 |n,m::r=>Nat.beq n m ||eV n r
def reach(R:List (Nat×En)):Nat->List P->List Nat->List Nat
 |0,_,acc=>acc
 |_,[],acc=>acc
 |k+1,p::ps,acc=>match p.name with
  |none=>reach R k (p.LA++ps) acc
  |some (n,v)=>if eV n acc then reach R k ps acc else
   match lk R n with
   |some e=>if Nat.beq e.ay v then(match e.obj with
    | .gone=>reach R k ps acc
    | .box _ qs=>reach R k (qs++ps) (acc++[n])
    | .bQ _ _ _ hand=>reach R k (Nz hand++ps) (acc++[n])
    | .bA _ _ (some (_,_,p))=>reach R k (p::ps) (acc++[n])
    |_=>reach R k ps (acc++[n])) else reach R k ps acc
   |none=>reach R k ps acc
def posOf:List Nat->Nat->Nat->Option Nat
 | [],_,_=>none
 |m::r,n,i=>if Nat.beq m n then some i else posOf r n (i+1)
def toPos(R:List (Nat×En))(ns:List Nat)(n v:Nat):Option (Nat×Nat):=
 match posOf ns n 0,lk R n with
 |some i,some e=>if Nat.beq e.ay v then some (i,0) else none
 |_,_=>none
def sub(R:List (Nat×En))(ρ:Nat->Nat->Option (Nat×Nat))(tagged:Bool):Nat->List Nat->Option (List (Nat×En))
 |_,[]=>some []
 |i,n::ns=>match lk R n with
  |some e=>match e.obj,sub R ρ tagged (i+1) ns with
   | .gone,_=>none
   |_,some r=>some ((i,⟨0,if tagged then some i else e.tag,dH ρ e.obj⟩)::r)
   |_,none=>none
  |none=>none
def cD:List Nat->Bool
 | []=>true
 |n::r=> !eV n r&&cD r
def ly(ρ:Nat->Nat->Option (Nat×Nat))(keep:List Nat):List (Nat×P)->List (Nat×P)
 | []=>[]
 | (t,p)::r=>if eV t keep then(t,mY ρ p)::ly ρ keep r else ly ρ keep r
def Eh(keep:List Nat):List (Nat×P)->List P
 | []=>[]
 | (t,p)::r=>if eV t keep then p::Eh keep r else Eh keep r
def canon(keep:List Nat)(s:S):Option S:=
 let ns:=reach s.rg 1000 (Eh keep s.tm) []
 if cD ns then
  (match sub s.rg (toPos s.rg ns) false 0 ns with
  |some R=>some ⟨s.n,ly (toPos s.rg ns) keep s.tm,R⟩
  |none=>none) else none
abbrev CF:=FuncId->List P->List (Nat×En)->Option (P×List (Nat×En))
def FT:List P->Bool
 | []=>true
 |p::r=>(match p with | .d _ | .sl _ _ _ | .hZ _ _ _ _ _=>true |_=>false)&&FT r
def gA(Q:Program)(s:S)(t:TypeId)(p:P):Option (S×P):=
 match p with
 | .agg ps=>if FT ps then(match jh Q s t (.agg ps) with |some (s1,x)=>some (s1,P.d x)|none=>none) else some (s,.agg ps)
 | .d x=>(match cn Q t&&lx Q t with |true=>(GA Q t x).force λy=>some (s,.d y)|false=>some (s,.d x))
 |p=>some (s,p)
def ke(Q:Program)(s:S)(t:TypeId)(p:P):Option (S×P):=
 match p with
 | .sl .. | .hZ ..=>(match kb Q s p with |some (s1,x)=>some (s1,P.d x)|none=>none)
 |p=>gA Q s t p
def cU(Q:Program)(s:S)(ts:List TypeId):List P->Option (S×List P)
 | []=>some (s,[])
 |p::ps=>match ke Q s (ts.headD 0) p with
  |none=>none
  |some (s1,q)=>match cU Q s1 ts.tail ps with
   |some (s2,qs)=>some (s2,q::qs)
   |none=>none
def I3(x:String):List String->Bool
 | []=>false
 |y::r=>x==y ||I3 x r
def zG:List String:=["recension/recensionref13.Find", "recension/recensionref13.Within", "recension/recensionref16.Find", "recension/recensionref09.Has", "recension/recensionref09.HasStamp"]
def I4(Q:Program)(f:FuncId):Bool:=
 match Q.funcs[f]? with
 |some fn=>I3 fn.name zG || !fn.targs.toList.isEmpty&&(fn.origin== "slices.SortFunc" ||fn.origin== "slices.DeleteFunc" ||fn.origin== "slices.Delete" ||fn.origin== "slices.Insert" ||fn.origin== "slices.Reverse" ||fn.origin== "slices.IndexFunc" ||fn.origin== "slices.ContainsFunc" ||fn.origin== "slices.Clone")
 |none=>false
def Bu(Q:Program)(f:FuncId):List TypeId:=match Q.funcs[f]? with |some fn=>fn.params.toList |none=>[]
def bJ(Q:Program)(s:S)(f:FuncId)(ps:List P):Option (S×List P):=if I4 Q f then some (s,ps) else cU Q s (Bu Q f) ps
def Bv:List (Nat×En)->Nat->Option Nat
 | [],_=>none
 | (m,e)::r,i=>(match e.tag with |some j=>if Nat.beq i j then some m else Bv r i |none=>Bv r i)
def kg(R1:List (Nat×En))(i:Nat):Option (Nat×En):=
 match Bv R1 i with
 |some m=>(match lk R1 m with
  |some e=>(match e.tag with |some j=>if Nat.beq i j then some (m,e) else none |none=>none)
  |none=>none)
 |none=>none
def dm(R1:List (Nat×En))(R:List (Nat×En))(ns ms:List Nat)(base:Nat)(n v:Nat):Option (Nat×Nat):=
 match lk R1 n with
 |none=>none
 |some e=>if Nat.beq e.ay v then(match e.tag with
  |some i=>(match ns[i]?,kg R1 i with
   |some m,some (n1,_)=>if Nat.beq n1 n then(match lk R m with |some e0=>some (m,e0.ay)|none=>none) else none
   |_,_=>none)
  |none=>(match posOf ms n 0 with
   |some j=>(match lk R (base+j) with |none=>some (base+j,0)|some e0=>some (base+j,e0.ay+1))
   |none=>none)) else none
def dN(R1:List (Nat×En))(σ:Nat->Nat->Option (Nat×Nat)):Nat->List Nat->List (Nat×En)->Option (List (Nat×En))
 |_,[],R=>some R
 |i,n::ns,R=>match lk R n with
  |none=>none
  |some e=>dN R1 σ (i+1) ns (ins n ⟨e.ay,e.tag,match kg R1 i with |some (_,e1)=>dH σ e1.obj |none=> .gone⟩ R)
def gB(R1:List (Nat×En))(σ:Nat->Nat->Option (Nat×Nat)):Nat->List Nat->List (Nat×En)->Option (List (Nat×En))
 |_,[],R=>some R
 |m,n::ns,R=>match lk R1 n with
  |none=>none
  |some e1=>match lk R m with
   |none=>gB R1 σ (m+1) ns (ins m ⟨0,none,dH σ e1.obj⟩ R)
   |some e0=>match e0.obj with
    | .gone=>gB R1 σ (m+1) ns (ins m ⟨e0.ay+1,none,dH σ e1.obj⟩ R)
    |_=>none
def bT(R1:List (Nat×En)):List Nat->List Nat
 | []=>[]
 |n::r=>match lk R1 n with
  |some e=>(match e.tag with |none=>n::bT R1 r |some _=>bT R1 r)
  |none=>bT R1 r
def cE(R1:List (Nat×En)):List (Nat×En)->List P
 | []=>[]
 | (_,e)::r=>match e.tag,e.obj with
  |some _,.box _ ps=>ps++cE R1 r
  |some _,.bQ _ _ _ hand=>Nz hand++cE R1 r
  |some _,.bA _ _ (some (_,_,p))=>p::cE R1 r
  |_,_=>cE R1 r
def iz(Q:Program)(cf:CF)(s:S)(dst:Option Nat)(f:P)(args:List P):Option S:=
 match f with
 | .fn fN bF=>match bJ Q s fN (args++bF) with
  |none=>none
  |some (s1,ps)=>
   let ns:=reach s1.rg 1000 ps []
   if cD ns then(match sub s1.rg (toPos s1.rg ns) true 0 ns with
    |none=>none
    |some R0=>match cf fN (iK (toPos s1.rg ns) ps) R0 with
     |none=>none
     |some (p,R1)=>
      let ms:=bT R1 (reach R1 1000 (p::cE R1 R1) [])
      let σ:=dm R1 s1.rg ns ms (site dst*1000)
      if cD ms&&Nat.ble ms.length 1000 then(match dN R1 σ 0 ns s1.rg with
       |none=>none
       |some R2=>match gB R1 σ (site dst*1000) ms R2 with
        |none=>none
        |some R3=>({s1 with rg:=R3}:S).put dst (mY σ p)) else none) else none
 |_=>none
def aG(ops:List Oper)(o:Oper):Option (Option (Nat×Bool)):=
 match o.guard with
 |none=>some none
 |some (j,want)=>match ops[j]? with
  |some oj=>(match oj.dst with |some t=>some (some (t,want))|none=>none)
  |none=>none
def dT(o:Oper):Option (Operand×List Operand):=
 match o.op with
 | .call c=>match c.callee with | .value f=>some (f,c.args.toList)|_=>none
 |_=>none
def dK(Q:Program)(cf:CF)(s:S)(o:Oper)(g:Option (Nat×Bool)):Option S:=
 match dT o with
 |some (f,xs)=>iz Q cf s o.dst (s.eg g f) (xs.map (s.eg g))
 |none=>exec Q s o g
def aM(Q:Program)(cf:CF)(ops:List Oper)(s:S)(o:Oper):Option S:=
 match aG ops o with
 |none=>none
 |some none=>dK Q cf s o none
 |some (some (t,want))=>
  match lk s.tm t with
  |some (.d (.bool b))=>if b==want then dK Q cf s o (some (t,want)) else s.put o.dst .skip
  |some (.when ..)=>s.put o.dst .skip
  |_=>none
def cj(Q:Program)(cf:CF)(ops:List Oper):List Oper->S->Option S
 | [],s=>some s
 |o::r,s=>match aM Q cf ops s o with
  |some s1=>cj Q cf ops r s1
  |none=>none
end Pi
