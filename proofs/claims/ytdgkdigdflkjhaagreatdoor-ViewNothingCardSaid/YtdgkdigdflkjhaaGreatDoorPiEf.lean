/- The text PiEf. -/
import Derived.Test.YtdgkdigdflkjhaaGreatDoorPiBase
namespace Pi
open Go
def rl(Q:Program):Nat->TypeId->List (Option TypeId)
 |0,_=>[]
 |n+1,t=>match Q.underlying t with
  |some (.struct fs)=>fs.toList.flatMap λf=>rl Q n f.type
  |some (.array k e)=>(List.replicate k (rl Q n e)).flatten
  |some (.slice e)=>[some e]
  |_=>[none]
def uj(s:S)(n:Nat)(p:P)(t:Option TypeId):Option (S×P):=
 match p,t with
 | .d .e9,some e=>match s.new n (.arr e false []) with
  |some (s',v)=>some (s',.sl n v 0)
  |none=>none
 |_,_=>some (s,p)
def cw(s:S)(n:Nat):List P->List (Option TypeId)->Option (S×List P)
 | [],_=>some (s,[])
 |p::ps,ts=>match uj s n p (ts.headD none) with
  |none=>none
  |some (s1,q)=>match cw s1 (n+1) ps ts.tail with
   |some (s2,qs)=>some (s2,q::qs)
   |none=>none
def oV(Q:Program)(s:S)(dst:Option Nat)(t:TypeId)(ps:List P):Option S:=
 match cw s (site dst*1000) ps (rl Q 20 t) with
 |none=>none
 |some (s1,qs)=>(match s1.new (site dst) (.box t qs) with
  |some (s2,v)=>s2.put dst (.ref (site dst) v 0)
  |none=>none)
def qu Q (s:S)(p:P):=
 match p with
 | .d x=>some (s,x)
 | .sl n v len=>match s.obj n v with
  |some (.arr ty _ es)=>match sz Q ty with
   |some (k+1)=>some (s.setObj n (.arr ty true es),.sl (k+1) (es.take len))
   |_=>none
  |_=>none
 | .mG n v k' off len=>match s.obj n v with
  |some (.arr ty _ es)=>match sz Q ty with
   |some (k+1)=>if Nat.beq k' (k+1) then some (s.setObj n (.arr ty true es),.sl (k+1) ((es.drop off).take len)) else none
   |_=>none
  |_=>none
 |_=>none
def rV(Q:Program)(s:S):List P->Option (S×List D)
 | []=>some (s,[])
 |p::ps=>match qu Q s p with
  |none=>none
  |some (s1,x)=>match rV Q s1 ps with
   |some (s2,xs)=>some (s2,x::xs)
   |none=>none
def Hc(Q:Program)(s:S)(p:P):Option (S×D):=
 match p with
 | .agg ps=>match rV Q s ps with |some (s',xs)=>some (s',.agg xs)|none=>none
 |_=>qu Q s p
def D.kg{β:Type}(x:D)(k:D->β):=
 match x with
 | .bool b=>k (.bool b)
 | .int a n=>k (.int a n)
 | .str s=>k (.str s)
 | .agg cs=>k (.agg cs)
 | .sl n es=>k (.sl n es)
 | .e9=>k .e9
 | .sW=>k .sW
 | .ui=>k .ui
 | .ES=>k .ES
 | .ET=>k .ET
def nu{α β:Type}(f:α->(α->β)->β):List α->(List α->β)->β
 | [],k=>k []
 |x::r,k=>f x λy=>nu f r λr'=>k (y::r')
def D.force{β:Type}(x:D)(k:D->β):=
 match x with
 | .agg cs=>nu D.kg cs λmA=>k (.agg mA)
 |y=>y.kg k
theorem D.jj{β:Type} x (k:D->β):x.kg k=k x:=by cases x<;>rfl
theorem h9{α β:Type}{f:α->(α->β)->β}(hf: ∀x k,f x k=k x): ∀l k,nu f l k=k l
 | [],_=>rfl
 |x::r,k=>by simp only[nu,hf];rw[h9 hf r]
theorem D.force_eq{β:Type} x (k:D->β):x.force k=k x:=by
 cases x with
 |agg cs=>exact h9 D.jj cs (λmA=>k (.agg mA))
 |_=>rfl
def nzC(Q:Program)(t:Option TypeId)(x:D):D:=
 match t with
 |some e=>(match x with
  | .e9=>(match sz Q e with |some (k+1)=> .sl (k+1) []|_=> .e9)
  |y=>y)
 |none=>x
def HS(Q:Program):List (Option TypeId)->List D->List D
 |t::ts,c::cs=>nzC Q t c::HS Q ts cs
 |_,cs=>cs
def sg Q t:=(rl Q 20 t).any Option.isSome
def nzD(Q:Program)(t:TypeId)(x:D):D:=match x with | .agg cs=> .agg (HS Q (rl Q 20 t) cs)| .e9=>nzC Q (cX Q t) .e9 |y=>y
def oW(Q:Program)(s:S)(t:TypeId)(p:P):Option (S×D):=
 match sg Q t with
 |false=>Hc Q s p
 |true=>match Hc Q s p with |some (s',x)=>(nzD Q t x).force λy=>some (s',y)|none=>none
def D.aT(x:D)(cs:List D):D:=match x with | .agg _=> .agg cs |_=>cs.headD x
def gU(Q:Program)(s:S)(t:TypeId)(addr val:P):Option S:=
 match sz Q t with
 |none=>none
 |some k=>
      match addr with
  | .ref n v off=>match uj s (2000000+n*1000+off) val (cX Q t) with
   |some (s1,val)=>match s1.obj n v with
    |some (.box ty ps)=>if Nat.beq val.cells.length k&&Nat.ble (off+k) ps.length&&val.oU then some (s1.setObj n (.box ty (splice ps off val.cells))) else none
    |_=>none
   |none=>none
  | .dJ n v i k' off=>match oW Q s t val with
   |some (s1,x)=>match s1.obj n v with
    |some (.arr ty false es)=>match es[i]?,sz Q ty with
     |some y,some k2=>if Nat.beq k' k2&&Nat.beq x.cells.length k&&Nat.ble (off+k) k2 then
      some (s1.setObj n (.arr ty false (es.set i (y.aT (y.cells.take off++x.cells++y.cells.drop (off+k)))))) else none
     |_,_=>none
    |_=>none
   |none=>none
  |_=>none
def nv(Q:Program)(s:S)(t2:TypeId)(k:Nat)(p:P):Option (List D):=
 match p with
 | .sl n v len=>match s.obj n v,Q.underlying t2 with
  |some (.arr ty _ es),some (.slice _)=>if sz Q ty==some k then some (es.take len) else none
  |_,_=>none
 | .mG n v k' off len=>match s.obj n v,Q.underlying t2 with
  |some (.arr ty _ es),some (.slice _)=>if sz Q ty==some k&&Nat.beq k' k then some ((es.drop off).take len) else none
  |_,_=>none
 | .d (.sl k' es)=>match Q.underlying t2 with |some (.slice _)=>if Nat.beq k' k then some es else none |_=>none
 | .d .e9=>match Q.underlying t2 with |some (.slice _)=>some []|_=>none
 | .d (.str l)=>match Q.underlying t2 with |some .string=>if Nat.beq k 1 then some (l.map λb=>D.int .u8 b.toNat) else none |_=>none
 |_=>none
def aG len bytes:=Nat.ble (len*bytes) 140737488355328&&Nat.ble len 9223372036854775807
def jy(Q:Program)(s:S)(dst:Option Nat)(t t2:TypeId)(p q:P):Option S:=
 match cX Q t with
 |none=>none
 |some e=>
       match Q.info? e,sz Q e with
  |some i,some (k+1)=>match nv Q s t2 (k+1) q,eK Q e with
   |some ys,some z=>if Nat.beq z.cells.length (k+1) then(match p with
    | .sl n v len=>match lk s.rg n with
     |some en=>match en.obj with
      | .arr ty false es=>if Nat.beq en.aV v&&Nat.beq ty e&&Nat.ble len es.length&&aG (len+ys.length) i.bytes then
        ({s with rg:=ins n ⟨v+1,none,.arr ty false (es.take len++ys)⟩ s.rg}:S).put dst (.sl n (v+1) (len+ys.length))
       else none
      |_=>none
     |none=>none
    | .d .e9=>if aG ys.length i.bytes then(match s.new (site dst) (.arr e false ys) with
      |some (s1,v)=>s1.put dst (.sl (site dst) v ys.length)
      |none=>none) else none
    |_=>none) else none
   |_,_=>none
  |_,_=>none
def kh:List D->Option (List UInt8)
 | []=>some []
 | .int .u8 n::r=>match kh r with |some l=>some (UInt8.ofNat n.toNat::l)|none=>none
 |_=>none
def uk(Q:Program)(s:S)(dst:Option Nat)(t:TypeId)(p q:P):Option S:=
 match cX Q t,p,q with
 |some e,.d (.int _ l),.d (.int _ c)=>match Q.info? e,sz Q e,eK Q e with
  |some i,some (k+1),some z=>if Nat.beq z.cells.length (k+1)&&decide (0<=l/\l<=c/\c<=9223372036854775807/\(i.bytes:Int)*c<=281474976710656) then
   (match s.new (site dst) (.arr e false (List.replicate l.toNat z)) with
   |some (s1,v)=>s1.put dst (.sl (site dst) v l.toNat)
   |none=>none) else none
  |_,_,_=>none
 |_,_,_=>none
def cY(Q:Program)(t:TypeId)(k:Nat):S->List D->List (Nat×P)->Option (S×List D)
 |s,es,[]=>some (s,es)
 |s,es,(i,p)::r=>match oW Q s t p with
  |some (s1,x)=>if Nat.beq x.cells.length k&&Nat.blt i es.length then cY Q t k s1 (es.set i x) r else none
  |none=>none
def sX(Q:Program)(s:S)(dst:Option Nat)(t:TypeId)(len:Nat)(parts:List (Nat×P)):Option S:=
 match cX Q t with
 |some e=>match Q.info? e,sz Q e,eK Q e with
  |some i,some (k+1),some z=>if Nat.beq z.cells.length (k+1)&&Nat.ble (len*(k+1)) 16777216&&Nat.ble (len*i.bytes) 140737488355328 then
   (match cY Q e (k+1) s (List.replicate len z) parts with
   |some (s1,es)=>(match s1.new (site dst) (.arr e false es) with
    |some (s2,v)=>s2.put dst (.sl (site dst) v len)
    |none=>none)
   |none=>none) else none
  |_,_,_=>none
 |none=>none
def um(Q:Program)(s:S)(dst:Option Nat)(t t2:TypeId)(p q:P):Option S:=
 match cX Q t,p with
 |some e,.sl n v len=>match sz Q e with
  |some (k+1)=>match nv Q s t2 (k+1) q,s.obj n v with
   |some ys,some (.arr ty false es)=>if Nat.beq ty e&&decide (len<=es.length/\ys.length<=len) then(s.setObj n (.arr ty false (ys++es.drop ys.length))).put dst (.d (.int .i64 ys.length)) else none
   |_,_=>none
  |_=>none
 |_,_=>none
def oX(Q:Program)(s:S)(dst:Option Nat)(t:TypeId)(p:P):Option S:=
 match cX Q t,p with
 |some e,.mG n v k off len=>match sz Q e,eK Q e,s.obj n v with
  |some (k2+1),some z,some (.arr ty false es)=>if Nat.beq ty e&&Nat.beq k (k2+1)&&Nat.beq z.cells.length (k2+1)&&decide (off+len<=es.length) then(s.setObj n (.arr ty false (es.take off++List.replicate len z++es.drop (off+len)))).put dst .bad else none
  |_,_,_=>none
 |_,_=>none
def ly(Q:Program)(s:S)(dst:Option Nat)(t:TypeId):Option S:=
 match jJ Q t with
 |some (kt,_)=>match s.new (site dst) (.map kt (λ_=>none) 0 false) with
  |some (s1,v)=>s1.put dst (.mp (site dst) v)
  |none=>none
 |none=>none
def jz(Q:Program)(s:S)(dst:Option Nat)(t:TypeId)(p k x:P):Option S:=
 match jJ Q t,p,k with
 |some (kt,vt),.mp n v,.d kd=>match oW Q s vt x with
  |some (s1,y)=>match s1.obj n v with
   |some (.map zq get c false)=>if Nat.beq kt zq&&fp Q kt kd then(s1.setObj n (.map kt (aX kd y get) (bif (get kd).isSome then c else c+1) false)).put dst .bad else none
   |_=>none
  |none=>none
 |_,_,_=>none
def Ll(Q:Program)(s:S)(dst:Option Nat)(t:TypeId)(p k:P):Option S:=
 match jJ Q t,p,k with
 |some (kt,_),.mp n v,.d kd=>match s.obj n v with
  |some (.map zq get c false)=>if Nat.beq kt zq&&fp Q kt kd then(s.setObj n (.map kt (jg kd get) (bif (get kd).isSome then c-1 else c) false)).put dst .bad else none
  |_=>none
 |_,_,_=>none
def jA(Q:Program)(s:S)(dst:Option Nat)(t:TypeId)(p k:P):Option S:=
 match jJ Q t,p,k with
 |some (kt,e),.mp n v,.d kd=>match eK Q e with
  |some z=>match s.obj n v with
   |some (.map zq get c false)=>if Nat.beq kt zq&&fp Q kt kd&& !Nat.beq n (site dst) then(match s.new (site dst) .eJ with
    |some (s1,v1)=>(s1.setObj n (.kM kt (aX kd (aQ (get kd) z) get) (bif (get kd).isSome then c else c+1) (.mp (site dst) v1) kd)).put dst (.dz [.bad,.mp (site dst) v1])
    |none=>none) else none
   |_=>none
  |none=>none
 |_,_,_=>none
def qv Q s dst (p st x:P):=
 match p,st with
 | .mp n v,.mp m vm=>match Hc Q s x with
  |some (s1,y)=>match s1.obj n v,s1.obj m vm with
   |some (.kM kt get c (.mp m' vm') kd),some .eJ=>if Nat.beq m m'&&Nat.beq vm vm'&&fp Q kt kd then(s1.setObj n (.map kt (aX kd y get) c false)).put dst .bad else none
   |_,_=>none
  |none=>none
 |_,_=>none
def sY(Q:Program)(s:S)(dst:Option Nat)(t:TypeId)(p:P):Option S:=
 match jJ Q t,p with
 |some (kt,vt),.mp n v=>match s.obj n v with
  |some (.map zq get c _)=>if Nat.beq kt zq then(match(s.setObj n (.map kt get c true)).new (site dst) (.iter kt vt get none) with
   |some (s1,v1)=>s1.put dst (.ref (site dst) v1 0)
   |none=>none) else none
  |_=>none
 |some (kt,vt),.d .ui=>(match s.new (site dst) (.iter kt vt (λ_=>none) none) with
  |some (s1,v1)=>s1.put dst (.ref (site dst) v1 0)
  |none=>none)
 |_,_=>none
def ef(Q:Program)(s:S)(o:Oper)(g:Option (Nat×Bool)):Option S:=
 match o.op with
 | .alloc t=>match eK Q t with |some z=>oV Q s o.dst t ((P.d z).cells)|none=>none
 | .box t x=>if(s.eg g x).oU then oV Q s o.dst t (s.eg g x).cells else none
 | .store t addr x=>match gU Q s t (s.eg g addr) (s.eg g x) with |some s1=>s1.put o.dst .bad |none=>none
 | .convert t1 t2 x=>match Q.underlying t1,Q.underlying t2 with
  |some (.slice e),some .string=>match Q.underlying e,nv Q s t1 1 (s.eg g x) with
   |some (.int .u8),some ys=>match kh ys with |some l=>s.put o.dst (.d (.str l))|none=>none
   |_,_=>none
  |_,_=>none
 | .call c=>match c.callee with
  | .builtin .append=>match c.args.toList,c.argTypes.toList with
   | [x,y],[t,t2]=>jy Q s o.dst t t2 (s.eg g x) (s.eg g y)
   |_,_=>none
  | .builtin .copy=>match c.args.toList,c.argTypes.toList with
   | [x,y],[t,t2]=>um Q s o.dst t t2 (s.eg g x) (s.eg g y)
   |_,_=>none
  | .builtin .clear=>match c.args.toList,c.argTypes.toList with
   | [x],[t]=>oX Q s o.dst t (s.eg g x)
   |_,_=>none
  | .builtin .delete=>match c.args.toList,c.argTypes.toList with
   | [x,y],t::_=>Ll Q s o.dst t (s.eg g x) (s.eg g y)
   |_,_=>none
  |_=>none
 | .makeSlice t x y=>uk Q s o.dst t (s.eg g x) (s.eg g y)
 | .makeMap t none=>ly Q s o.dst t
 | .mapUpdate t m k x=>jz Q s o.dst t (s.eg g m) (s.eg g k) (s.eg g x)
 | .insert t m k x=>jz Q s o.dst t (s.eg g m) (s.eg g k) (s.eg g x)
 | .range t x=>sY Q s o.dst t (s.eg g x)
 | .mapEntry t m k=>jA Q s o.dst t (s.eg g m) (s.eg g k)
 | .entryStore _ m st x=>qv Q s o.dst (s.eg g m) (s.eg g st) (s.eg g x)
 | .buildSlice t len parts=>sX Q s o.dst t len (parts.toList.map λx=>(x.1,s.eg g x.2))
 |_=>none
def dn Q (o:Oper):=
 match o.op with
 | .assign (.const (.slice none 0 0))=>cX Q o.type
 |_=>none
def nzE(Q:Program)(t:TypeId)(x:D):D:=match sg Q t with |false=>x |true=>nzD Q t x
def rn(Q:Program)(t:TypeId)(k:Nat):List D->List (Nat×P)->Option (List D)
 |es,[]=>some es
 |es,(i,.d x)::r=>if Nat.beq (nzE Q t x).cells.length k&&Nat.blt i es.length then rn Q t k (es.set i (nzE Q t x)) r else none
 |_,_=>none
def De(Q:Program)(t:TypeId)(len:Nat)(parts:List (Nat×P)):Option P:=
 match cX Q t with
 |some e=>match Q.info? e,sz Q e,eK Q e with
  |some i,some (k+1),some z=>if Nat.beq z.cells.length (k+1)&&Nat.ble (len*(k+1)) 16777216&&Nat.ble (len*i.bytes) 140737488355328 then
   (match rn Q e (k+1) (List.replicate len z) parts with
   |some es=>some (.d (.sl (k+1) es))
   |none=>none) else none
  |_,_,_=>none
 |none=>none
def sZ(o:Oper):=
 match o.op with
 | .buildSlice t len parts=>if Nat.beq o.type 4000000 then some (t,len,parts.toList) else none
 |_=>none
def jK(Q:Program)(s:S)(o:Oper)(g:Option (Nat×Bool)):Option S:=
 match dn Q o with
 |some e=>match s.new (site o.dst) (.arr e false []) with
  |some (s1,v)=>s1.put o.dst (.sl (site o.dst) v 0)
  |none=>none
 |none=>match pv Q s o g with
  |some p=>s.put o.dst p
  |none=>ef Q s o g
def exec(Q:Program)(s:S)(o:Oper)(g:Option (Nat×Bool)):Option S:=
 match sZ o with
 |some (t,len,parts)=>match De Q t len (parts.map λx=>(x.1,s.eg g x.2)) with
  |some p=>s.put o.dst p
  |none=>none
 |none=>jK Q s o g
end Pi
