/- The text PiCode. -/
import Derived.Test.YtngoddkencoalaaGreatDoorPiEf
namespace Pi
open Go
mutual
def AB(ρ:Nat->Nat->Option (Nat×Nat)):P->P
 | .agg ps=> .agg (mD ρ ps)
 | .cX ps=> .cX (mD ρ ps)
 | .fn f ps=> .fn f (mD ρ ps)
 | .ref n v off=>match ρ n v with |some (n',v')=> .ref n' v' off |none=> .bad
 | .dz n v i k off=>match ρ n v with |some (n',v')=> .dz n' v' i k off |none=> .bad
 | .sl n v len=>match ρ n v with |some (n',v')=> .sl n' v' len |none=> .bad
 | .lG n v k off len=>match ρ n v with |some (n',v')=> .lG n' v' k off len |none=> .bad
 | .mp n v=>match ρ n v with |some (n',v')=> .mp n' v' |none=> .bad
 | .when t b p=> .when t b (AB ρ p)
 | .d x=> .d x
 | .e8 x off=> .e8 x off
 | .bad=> .bad
def mD(ρ:Nat->Nat->Option (Nat×Nat)):List P->List P
 | []=>[]
 |p::ps=>AB ρ p::mD ρ ps
end
def fR(ρ:Nat->Nat->Option (Nat×Nat)):Obj->Obj
 | .box ty ps=> .box ty (mD ρ ps)
 | .j7 kt get c p kd=> .j7 kt get c (AB ρ p) kd
 |o=>o
def P.qhB:P->List P
 | .agg ps | .cX ps | .fn _ ps=>ps
 | .when _ _ p=>[p]
 |_=>[]
def P.name:P->Option (Nat×Nat)
 | .ref n v _ | .dz n v _ _ _ | .sl n v _ | .lG n v _ _ _ | .mp n v=>some (n,v)
 |_=>none
def gS:Nat->List Nat->Bool
 |_,[]=>false
 |n,m::r=>Nat.beq n m ||gS n r
def reach(R:List (Nat×En)):Nat->List P->List Nat->List Nat
 |0,_,acc=>acc
 |_,[],acc=>acc
 |k+1,p::ps,acc=>match p.name with
  |none=>reach R k (p.qhB++ps) acc
  |some (n,v)=>if gS n acc then reach R k ps acc else
   match lk R n with
   |some e=>if Nat.beq e.aY v then(match e.obj with
    | .gone=>reach R k ps acc
    | .box _ qs=>reach R k (qs++ps) (acc++[n])
    |_=>reach R k ps (acc++[n])) else reach R k ps acc
   |none=>reach R k ps acc
def posOf:List Nat->Nat->Nat->Option Nat
 | [],_,_=>none
 |m::r,n,i=>if Nat.beq m n then some i else posOf r n (i+1)
def toPos(R:List (Nat×En))(ns:List Nat)(n v:Nat):Option (Nat×Nat):=
 match posOf ns n 0,lk R n with
 |some i,some e=>if Nat.beq e.aY v then some (i,0) else none
 |_,_=>none
def sub(R:List (Nat×En))(ρ:Nat->Nat->Option (Nat×Nat))(tagged:Bool):Nat->List Nat->Option (List (Nat×En))
 |_,[]=>some []
 |i,n::ns=>match lk R n with
  |some e=>match e.obj,sub R ρ tagged (i+1) ns with
   | .gone,_=>none
   |_,some r=>some ((i,⟨0,if tagged then some i else e.tag,fR ρ e.obj⟩)::r)
   |_,none=>none
  |none=>none
def dW:List Nat->Bool
 | []=>true
 |n::r=> !gS n r&&dW r
def qO(ρ:Nat->Nat->Option (Nat×Nat))(keep:List Nat):List (Nat×P)->List (Nat×P)
 | []=>[]
 | (t,p)::r=>if gS t keep then(t,AB ρ p)::qO ρ keep r else qO ρ keep r
def VU(keep:List Nat):List (Nat×P)->List P
 | []=>[]
 | (t,p)::r=>if gS t keep then p::VU keep r else VU keep r
def canon(keep:List Nat)(s:S):Option S:=
 let ns:=reach s.rg 1000 (VU keep s.tm) []
 if dW ns then
  (match sub s.rg (toPos s.rg ns) false 0 ns with
  |some R=>some ⟨s.n,qO (toPos s.rg ns) keep s.tm,R⟩
  |none=>none) else none
abbrev CF:=FuncId->List P->List (Nat×En)->Option (P×List (Nat×En))
def qaC:List P->Bool
 | []=>true
 |p::r=>(match p with | .d _ | .sl _ _ _ | .lG _ _ _ _ _=>true |_=>false)&&qaC r
def kH(Q:Program)(s:S)(t:TypeId)(p:P):Option (S×P):=
 match p with
 | .agg ps=>if qaC ps then(match nv Q s t (.agg ps) with |some (s1,x)=>some (s1,P.d x)|none=>none) else some (s,.agg ps)
 | .d x=>(match dA Q t&&qN Q t with |true=>(nzD Q t x).force λy=>some (s,.d y)|false=>some (s,.d x))
 |p=>some (s,p)
def oY(Q:Program)(s:S)(t:TypeId)(p:P):Option (S×P):=
 match p with
 | .sl .. | .lG ..=>(match oW Q s p with |some (s1,x)=>some (s1,P.d x)|none=>none)
 |p=>kH Q s t p
def eC(Q:Program)(s:S)(ts:List TypeId):List P->Option (S×List P)
 | []=>some (s,[])
 |p::ps=>match oY Q s (ts.headD 0) p with
  |none=>none
  |some (s1,q)=>match eC Q s1 ts.tail ps with
   |some (s2,qs)=>some (s2,q::qs)
   |none=>none
def qeZ(x:String):List String->Bool
 | []=>false
 |y::r=>x==y ||qeZ x r
def LW:List String:=["recension/recensionref13.Find", "recension/recensionref13.Within", "recension/recensionref16.Find", "recension/recensionref09.Has", "recension/recensionref09.HasStamp"]
def qe0(Q:Program)(f:FuncId):Bool:=
 match Q.funcs[f]? with
 |some fn=>qeZ fn.name LW || !fn.targs.toList.isEmpty&&(fn.origin== "slices.SortFunc" ||fn.origin== "slices.DeleteFunc" ||fn.origin== "slices.Delete" ||fn.origin== "slices.Insert" ||fn.origin== "slices.Reverse" ||fn.origin== "slices.IndexFunc" ||fn.origin== "slices.ContainsFunc" ||fn.origin== "slices.Clone")
 |none=>false
def OQ(Q:Program)(f:FuncId):List TypeId:=match Q.funcs[f]? with |some fn=>fn.params.toList |none=>[]
def cO(Q:Program)(s:S)(f:FuncId)(ps:List P):Option (S×List P):=if qe0 Q f then some (s,ps) else eC Q s (OQ Q f) ps
def OR:List (Nat×En)->Nat->Option Nat
 | [],_=>none
 | (m,e)::r,i=>(match e.tag with |some j=>if Nat.beq i j then some m else OR r i |none=>OR r i)
def w5(R1:List (Nat×En))(i:Nat):Option (Nat×En):=
 match OR R1 i with
 |some m=>(match lk R1 m with
  |some e=>(match e.tag with |some j=>if Nat.beq i j then some (m,e) else none |none=>none)
  |none=>none)
 |none=>none
def fc(R1:List (Nat×En))(R:List (Nat×En))(ns ms:List Nat)(base:Nat)(n v:Nat):Option (Nat×Nat):=
 match lk R1 n with
 |none=>none
 |some e=>if Nat.beq e.aY v then(match e.tag with
  |some i=>(match ns[i]?,w5 R1 i with
   |some m,some (n1,_)=>if Nat.beq n1 n then(match lk R m with |some e0=>some (m,e0.aY)|none=>none) else none
   |_,_=>none)
  |none=>(match posOf ms n 0 with
   |some j=>(match lk R (base+j) with |none=>some (base+j,0)|some e0=>some (base+j,e0.aY+1))
   |none=>none)) else none
def gl(R1:List (Nat×En))(σ:Nat->Nat->Option (Nat×Nat)):Nat->List Nat->List (Nat×En)->Option (List (Nat×En))
 |_,[],R=>some R
 |i,n::ns,R=>match lk R n with
  |none=>none
  |some e=>gl R1 σ (i+1) ns (ins n ⟨e.aY,e.tag,match w5 R1 i with |some (_,e1)=>fR σ e1.obj |none=> .gone⟩ R)
def kI(R1:List (Nat×En))(σ:Nat->Nat->Option (Nat×Nat)):Nat->List Nat->List (Nat×En)->Option (List (Nat×En))
 |_,[],R=>some R
 |m,n::ns,R=>match lk R1 n with
  |none=>none
  |some e1=>match lk R m with
   |none=>kI R1 σ (m+1) ns (ins m ⟨0,none,fR σ e1.obj⟩ R)
   |some e0=>match e0.obj with
    | .gone=>kI R1 σ (m+1) ns (ins m ⟨e0.aY+1,none,fR σ e1.obj⟩ R)
    |_=>none
def da(R1:List (Nat×En)):List Nat->List Nat
 | []=>[]
 |n::r=>match lk R1 n with
  |some e=>(match e.tag with |none=>n::da R1 r |some _=>da R1 r)
  |none=>da R1 r
def fe(R1:List (Nat×En)):List (Nat×En)->List P
 | []=>[]
 | (_,e)::r=>match e.tag,e.obj with
  |some _,.box _ ps=>ps++fe R1 r
  |_,_=>fe R1 r
def l9(Q:Program)(cf:CF)(s:S)(dst:Option Nat)(f:P)(args:List P):Option S:=
 match f with
 | .fn ku cI=>match cO Q s ku (args++cI) with
  |none=>none
  |some (s1,ps)=>
   let ns:=reach s1.rg 1000 ps []
   if dW ns then(match sub s1.rg (toPos s1.rg ns) true 0 ns with
    |none=>none
    |some R0=>match cf ku (mD (toPos s1.rg ns) ps) R0 with
     |none=>none
     |some (p,R1)=>
      let ms:=da R1 (reach R1 1000 (p::fe R1 R1) [])
      let σ:=fc R1 s1.rg ns ms (site dst*1000)
      if dW ms&&Nat.ble ms.length 1000 then(match gl R1 σ 0 ns s1.rg with
       |none=>none
       |some R2=>match kI R1 σ (site dst*1000) ms R2 with
        |none=>none
        |some R3=>({s1 with rg:=R3}:S).put dst (AB σ p)) else none) else none
 |_=>none
def bp(ops:List Oper)(o:Oper):Option (Option (Nat×Bool)):=
 match o.guard with
 |none=>some none
 |some (j,want)=>match ops[j]? with
  |some oj=>(match oj.dst with |some t=>some (some (t,want))|none=>none)
  |none=>none
def gy(o:Oper):Option (Operand×List Operand):=
 match o.op with
 | .call c=>match c.callee with | .value f=>some (f,c.args.toList)|_=>none
 |_=>none
def fX(Q:Program)(cf:CF)(s:S)(o:Oper)(g:Option (Nat×Bool)):Option S:=
 match gy o with
 |some (f,xs)=>l9 Q cf s o.dst (s.eg g f) (xs.map (s.eg g))
 |none=>exec Q s o g
def bu(Q:Program)(cf:CF)(ops:List Oper)(s:S)(o:Oper):Option S:=
 match bp ops o with
 |none=>none
 |some none=>fX Q cf s o none
 |some (some (t,want))=>
  match lk s.tm t with
  |some (.d (.bool b))=>if b==want then fX Q cf s o (some (t,want)) else s.put o.dst .skip
  |some (.when ..)=>s.put o.dst .skip
  |_=>none
def dx(Q:Program)(cf:CF)(ops:List Oper):List Oper->S->Option S
 | [],s=>some s
 |o::r,s=>match bu Q cf ops s o with
  |some s1=>dx Q cf ops r s1
  |none=>none
end Pi
