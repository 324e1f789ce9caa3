/- The text PiEf. -/
import Derived.Test.YtpiohccneeblhaaPiBase
namespace Pi
open Go
def kX(Q:Program):Nat->TypeId->List (Option TypeId)
 |0,_=>[]
 |n+1,t=>match Q.underlying t with
  |some (.struct fs)=>fs.toList.flatMap λf=>kX Q n f.type
  |some (.array k e)=>(List.replicate k (kX Q n e)).flatten
  |some (.slice e)=>[some e]
  |_=>[none]
def ml(s:S)(n:Nat)(p:P)(t:Option TypeId):Option (S×P):=
 match p,t with
 | .d .bu,some e=>match s.new n (.arr e false []) with
  |some (s',v)=>some (s',.sl n v 0)
  |none=>none
 |_,_=>some (s,p)
def bh(s:S)(n:Nat):List P->List (Option TypeId)->Option (S×List P)
 | [],_=>some (s,[])
 |p::ps,ts=>match ml s n p (ts.headD none) with
  |none=>none
  |some (s1,q)=>match bh s1 (n+1) ps ts.tail with
   |some (s2,qs)=>some (s2,q::qs)
   |none=>none
def jg(Q:Program)(s:S)(dst:Option Nat)(t:TypeId)(ps:List P):Option S:=
 match bh s (site dst*1000) ps (kX Q 20 t) with
 |none=>none
 |some (s1,qs)=>(match s1.new (site dst) (.box t qs) with
  |some (s2,v)=>s2.put dst (.ref (site dst) v 0)
  |none=>none)
def D.cm(x:D)(cs:List D):D:=match x with | .agg _=> .agg cs |_=>cs.headD x
def bJ(es:List D):Option (Nat×Nat×P)->List D
 |some (i,j,_)=>es.modify i λx=>x.cm (x.cells.set j .unk)
 |none=>es
def kb(Q:Program)(s:S)(p:P):Option (S×D):=
 match p with
 | .d x=>some (s,x)
 | .sl n v len=>match s.obj n v with
  |some (.arr ty _ es)=>match sz Q ty with
   |some (k+1)=>some (s.setObj n (.arr ty true es),.sl (k+1) (es.take len))
   |_=>none
  |some (.bC ty es hd)=>match sz Q ty with
   |some (k+1)=>some (s.setObj n (.arr ty true (bJ es hd)),.sl (k+1) ((bJ es hd).take len))
   |_=>none
  |_=>none
 | .hZ n v k' off len=>match s.obj n v with
  |some (.arr ty _ es)=>match sz Q ty with
   |some (k+1)=>if Nat.beq k' (k+1) then some (s.setObj n (.arr ty true es),.sl (k+1) ((es.drop off).take len)) else none
   |_=>none
  |_=>none
 |_=>none
def lj(Q:Program)(s:S):List P->Option (S×List D)
 | []=>some (s,[])
 |p::ps=>match kb Q s p with
  |none=>none
  |some (s1,x)=>match lj Q s1 ps with
   |some (s2,xs)=>some (s2,x::xs)
   |none=>none
def uR(Q:Program)(s:S)(p:P):Option (S×D):=
 match p with
 | .agg ps=>match lj Q s ps with |some (s',xs)=>some (s',.agg xs)|none=>none
 |_=>kb Q s p
def D.dT{β:Type}(x:D)(k:D->β):β:=
 match x with
 | .bool b=>k (.bool b)
 | .int a n=>k (.int a n)
 | .str s=>k (.str s)
 | .agg cs=>k (.agg cs)
 | .sl n es=>k (.sl n es)
 | .bu=>k .bu
 | .jf=>k .jf
 | .mh=>k .mh
 | .tc=>k .tc
 | .tf=>k .tf
 | .Bn a b c=>k (.Bn a b c)
 | .unk=>k .unk
def iy{α β:Type}(f:α->(α->β)->β):List α->(List α->β)->β
 | [],k=>k []
 |x::r,k=>f x λy=>iy f r λr'=>k (y::r')
def D.force{β:Type}(x:D)(k:D->β):β:=
 match x with
 | .agg cs=>iy D.dT cs λjd=>k (.agg jd)
 |y=>y.dT k
theorem D.dA{β:Type}(x:D)(k:D->β):x.dT k=k x:=by cases x<;>rfl
theorem dZ{α β:Type}{f:α->(α->β)->β}(hf: ∀x k,f x k=k x): ∀(l:List α) (k:List α->β),iy f l k=k l
 | [],_=>rfl
 |x::r,k=>by simp only[iy,hf];rw[dZ hf r]
theorem D.force_eq{β:Type}(x:D)(k:D->β):x.force k=k x:=by
 cases x with
 |agg cs=>exact dZ D.dA cs (λjd=>k (.agg jd))
 |_=>rfl
def Jv(_:Program)(_:Option TypeId)(x:D):D:=x
def vn(Q:Program):List (Option TypeId)->List D->List D
 |t::ts,c::cs=>Jv Q t c::vn Q ts cs
 |_,cs=>cs
def lz(Q:Program)(t:TypeId):Bool:=(kX Q 20 t).any Option.isSome
def GR(Q:Program)(t:TypeId)(x:D):D:=match x with | .agg cs=> .agg (vn Q (kX Q 20 t) cs)| .bu=>Jv Q (bI Q t) .bu |y=>y
def jh(Q:Program)(s:S)(t:TypeId)(p:P):Option (S×D):=
 match lz Q t with
 |false=>uR Q s p
 |true=>match uR Q s p with |some (s',x)=>(GR Q t x).force λy=>some (s',y)|none=>none
def mn:Nat->List P->Option (List D×P)
 |0,q::r=>match pq r with |some ds=>some (.bu::ds,q)|none=>none
 |j+1,.d x::r=>match mn j r with |some (ds,q)=>some (x::ds,q)|none=>none
 |_,_=>none
def kY(s:S)(n v:Nat)(val:P):Option (TypeId×List D×Nat×Nat×List D×P):=
 match s.obj n v,val with
 |some (.bC ty es (some (hi,ho,_))),.agg ps=>match mn ho ps with |some (ds,q)=>some (ty,es,hi,ho,ds,q)|none=>none
 |_,_=>none
def dH(Q:Program)(s:S)(t:TypeId)(addr val:P):Option S:=
 match sz Q t with
 |none=>none
 |some k=>
       match addr with
  | .ref n v off=>match ml s (2000000+n*1000+off) val (bI Q t) with
   |some (s1,val)=>match s1.obj n v with
    |some (.box ty ps)=>if Nat.beq val.cells.length k&&Nat.ble (off+k) ps.length&&val.ib then some (s1.setObj n (.box ty (splice ps off val.cells))) else none
    |_=>none
   |none=>none
  | .bR n v i k' off=>match kY s n v val with
   |some (ty,es,hi,ho,ds,q)=>match es[i]?,sz Q ty with
    |some y,some k2=>if Nat.beq k' k2&&Nat.beq ds.length k&&Nat.beq k k2&&Nat.beq off 0&&decide (hi=i) then
      some (s.setObj n (.bC ty (es.set i (.agg ds)) (some (hi,ho,q)))) else none
    |_,_=>none
   |none=>match jh Q s t val with
   |some (s1,x)=>match s1.obj n v with
    |some (.arr ty false es)=>match es[i]?,sz Q ty with
     |some y,some k2=>if Nat.beq k' k2&&Nat.beq x.cells.length k&&Nat.ble (off+k) k2 then
       some (s1.setObj n (.arr ty false (es.set i (y.cm (y.cells.take off++x.cells++y.cells.drop (off+k)))))) else none
     |_,_=>none
    |_=>none
   |none=>none
  |_=>none
def iz(Q:Program)(s:S)(t2:TypeId)(k:Nat)(p:P):Option (List D):=
 match p with
 | .sl n v len=>match s.obj n v,Q.underlying t2 with
  |some (.arr ty _ es),some (.slice _)=>if sz Q ty==some k then some (es.take len) else none
  |_,_=>none
 | .hZ n v k' off len=>match s.obj n v,Q.underlying t2 with
  |some (.arr ty _ es),some (.slice _)=>if sz Q ty==some k&&Nat.beq k' k then some ((es.drop off).take len) else none
  |_,_=>none
 | .d (.sl k' es)=>match Q.underlying t2 with |some (.slice _)=>if Nat.beq k' k then some es else none |_=>none
 | .d .bu=>match Q.underlying t2 with |some (.slice _)=>some []|_=>none
 | .d (.str l)=>match Q.underlying t2 with |some .string=>if Nat.beq k 1 then some (l.map λb=>D.int .u8 b.toNat) else none |_=>none
 |_=>none
def bx(len bytes:Nat):Bool:=Nat.ble (len*bytes) 140737488355328&&Nat.ble len 9223372036854775807
def mq:List D->Option Nat
 | []=>none
 | .bu::_=>some 0
 |_::r=>match mq r with |some j=>some (j+1)|none=>none
def vo:List D->Option Nat
 | [y]=>mq y.cells
 |_=>none
def eH(Q:Program)(s:S)(dst:Option Nat)(t t2:TypeId)(p q:P):Option S:=
 match bI Q t with
 |none=>none
 |some e=>
       match Q.info? e,sz Q e with
  |some i,some (k+1)=>match iz Q s t2 (k+1) q,cQ Q e with
   |some ys,some z=>if Nat.beq z.cells.length (k+1) then(match p with
    | .sl n v len=>match lk s.rg n with
     |some en=>match en.obj with
      | .arr ty false es=>if Nat.beq en.az v&&Nat.beq ty e&&Nat.ble len es.length&&bx (len+ys.length) i.bytes then
        ({s with rg:=ins n ⟨v+1,none,.arr ty false (es.take len++ys)⟩ s.rg}:S).put dst (.sl n (v+1) (len+ys.length))
       else none
      | .bC ty es none=>if Nat.beq en.az v&&Nat.beq ty e&&Nat.ble len es.length&&bx (len+ys.length) i.bytes then(match vo ys with
        |some j=>({s with rg:=ins n ⟨v+1,none,.bC ty (es.take len++ys) (some (len,j,.d .bu))⟩ s.rg}:S).put dst (.sl n (v+1) (len+ys.length))
        |none=>none) else none
      |_=>none
     |none=>none
    | .d .bu=>if bx ys.length i.bytes then(match s.new (site dst) (.arr e false ys) with
      |some (s1,v)=>s1.put dst (.sl (site dst) v ys.length)
      |none=>none) else none
    |_=>none) else none
   |_,_=>none
  |_,_=>none
def fM:List D->Option (List UInt8)
 | []=>some []
 | .int .u8 n::r=>match fM r with |some l=>some (UInt8.ofNat n.toNat::l)|none=>none
 |_=>none
def mr(Q:Program)(s:S)(dst:Option Nat)(t:TypeId)(p q:P):Option S:=
 match bI Q t,p,q with
 |some e,.d (.int _ l),.d (.int _ c)=>match Q.info? e,sz Q e,cQ Q e with
  |some i,some (k+1),some z=>if Nat.beq z.cells.length (k+1)&&decide (0<=l/\l<=c/\c<=9223372036854775807/\(i.bytes:Int)*c<=281474976710656) then
   (match s.new (site dst) (.arr e false (List.replicate l.toNat z)) with
   |some (s1,v)=>s1.put dst (.sl (site dst) v l.toNat)
   |none=>none) else none
  |_,_,_=>none
 |_,_,_=>none
def bK(Q:Program)(t:TypeId)(k:Nat):S->List D->List (Nat×P)->Option (S×List D)
 |s,es,[]=>some (s,es)
 |s,es,(i,p)::r=>match jh Q s t p with
  |some (s1,x)=>if Nat.beq x.cells.length k&&Nat.blt i es.length then bK Q t k s1 (es.set i x) r else none
  |none=>none
def lL(Q:Program)(s:S)(dst:Option Nat)(t:TypeId)(len:Nat)(parts:List (Nat×P)):Option S:=
 match bI Q t with
 |some e=>match Q.info? e,sz Q e,cQ Q e with
  |some i,some (k+1),some z=>if Nat.beq z.cells.length (k+1)&&Nat.ble (len*(k+1)) 16777216&&Nat.ble (len*i.bytes) 140737488355328 then
   (match bK Q e (k+1) s (List.replicate len z) parts with
   |some (s1,es)=>(match s1.new (site dst) (.arr e false es) with
    |some (s2,v)=>s2.put dst (.sl (site dst) v len)
    |none=>none)
   |none=>none) else none
  |_,_,_=>none
 |none=>none
def mv(Q:Program)(s:S)(dst:Option Nat)(t t2:TypeId)(p q:P):Option S:=
 match bI Q t,p with
 |some e,.sl n v len=>match sz Q e with
  |some (k+1)=>match iz Q s t2 (k+1) q,s.obj n v with
   |some ys,some (.arr ty false es)=>if Nat.beq ty e&&decide (len<=es.length/\ys.length<=len) then(s.setObj n (.arr ty false (ys++es.drop ys.length))).put dst (.d (.int .i64 ys.length)) else none
   |_,_=>none
  |_=>none
 |_,_=>none
def ji(Q:Program)(s:S)(dst:Option Nat)(t:TypeId)(p:P):Option S:=
 match bI Q t,p with
 |some e,.hZ n v k off len=>match sz Q e,cQ Q e,s.obj n v with
  |some (k2+1),some z,some (.arr ty false es)=>if Nat.beq ty e&&Nat.beq k (k2+1)&&Nat.beq z.cells.length (k2+1)&&decide (off+len<=es.length) then(s.setObj n (.arr ty false (es.take off++List.replicate len z++es.drop (off+len)))).put dst .bad else none
  |_,_,_=>none
 |_,_=>none
def gx(Q:Program)(s:S)(dst:Option Nat)(t:TypeId):Option S:=
 match dF Q t with
 |some (kt,_)=>match s.new (site dst) (.map kt (λ_=>none) 0 false) with
  |some (s1,v)=>s1.put dst (.mp (site dst) v)
  |none=>none
 |none=>none
def GS(Q:Program)(t:TypeId):Bool:=match dF Q t with |some (_,vt)=>(match Q.underlying vt with |some (.pointer _)=>true |_=>false)|none=>false
def gy(Q:Program)(s:S)(dst:Option Nat)(t:TypeId):Option S:=
 match dF Q t with
 |some (kt,_)=>match s.new (site dst) (.bS kt (λ_=>none) 0 none) with
  |some (s1,v)=>s1.put dst (.mp (site dst) v)
  |none=>none
 |none=>none
def fp(Q:Program)(s:S)(dst:Option Nat)(t:TypeId)(p k x:P):Option S:=
 match dF Q t,p,k with
 |some (kt,_),.mp n v,.d kd=>match s.obj n v with
  |some (.bS jY vals c none)=>if Nat.beq kt jY&&cq Q kt kd&&x.aI&&(vals kd).isNone then(s.setObj n (.bS kt vals (c+1) (some (kd,x)))).put dst .bad else none
  |_=>none
 |_,_,_=>none
def tk(Q:Program)(s:S)(dst:Option Nat)(t:TypeId)(p k:P):Option S:=
 match dF Q t,p,k with
 |some (kt,_),.mp n v,.d kd=>match s.obj n v with
  |some (.bS jY vals c (some (k0,_)))=>if Nat.beq kt jY&&cq Q kt kd&&D.cP k0 kd then(s.setObj n (.bS kt (vf kd vals) (c-1) none)).put dst .bad else none
  |_=>none
 |_,_,_=>none
def fq(Q:Program)(s:S)(dst:Option Nat)(t:TypeId)(p k x:P):Option S:=
 match dF Q t,p,k with
 |some (kt,vt),.mp n v,.d kd=>match jh Q s vt x with
  |some (s1,y)=>match s1.obj n v with
   |some (.map jY get c false)=>if Nat.beq kt jY&&cq Q kt kd then(s1.setObj n (.map kt (dR kd y get) (bif (get kd).isSome then c else c+1) false)).put dst .bad else none
   |_=>none
  |none=>none
 |_,_,_=>none
def fr(Q:Program)(s:S)(dst:Option Nat)(t:TypeId)(p k:P):Option S:=
 match dF Q t,p,k with
 |some (kt,e),.mp n v,.d kd=>match cQ Q e with
  |some z=>match s.obj n v with
   |some (.map jY get c false)=>if Nat.beq kt jY&&cq Q kt kd&& !Nat.beq n (site dst) then(match s.new (site dst) .fy with
    |some (s1,v1)=>(s1.setObj n (.fZ kt (dR kd (jR (get kd) z) get) (bif (get kd).isSome then c else c+1) (.mp (site dst) v1) kd)).put dst (.fL [.bad,.mp (site dst) v1])
    |none=>none) else none
   |_=>none
  |none=>none
 |_,_,_=>none
def kc(Q:Program)(s:S)(dst:Option Nat)(p st x:P):Option S:=
 match p,st with
 | .mp n v,.mp m vm=>match uR Q s x with
  |some (s1,y)=>match s1.obj n v,s1.obj m vm with
   |some (.fZ kt get c (.mp m' La) kd),some .fy=>if Nat.beq m m'&&Nat.beq vm La&&cq Q kt kd then(s1.setObj n (.map kt (dR kd y get) c false)).put dst .bad else none
   |_,_=>none
  |none=>none
 |_,_=>none
def lM(Q:Program)(s:S)(dst:Option Nat)(t:TypeId)(p:P):Option S:=
 match dF Q t,p with
 |some (kt,vt),.mp n v=>match s.obj n v with
  |some (.map jY get c _)=>if Nat.beq kt jY then(match(s.setObj n (.map kt get c true)).new (site dst) (.iter kt vt get none) with
   |some (s1,v1)=>s1.put dst (.ref (site dst) v1 0)
   |none=>none) else none
  |_=>none
 |some (kt,vt),.d .mh=>(match s.new (site dst) (.iter kt vt (λ_=>none) none) with
  |some (s1,v1)=>s1.put dst (.ref (site dst) v1 0)
  |none=>none)
 |_,_=>none
def ef(Q:Program)(s:S)(o:Oper)(g:Option (Nat×Bool)):Option S:=
 match o.op with
 | .alloc t=>match cQ Q t with |some z=>jg Q s o.dst t ((P.d z).cells)|none=>none
 | .box t x=>if(s.eg g x).ib then jg Q s o.dst t (s.eg g x).cells else none
 | .store t addr x=>match dH Q s t (s.eg g addr) (s.eg g x) with |some s1=>s1.put o.dst .bad |none=>none
 | .convert t1 t2 x=>match Q.underlying t1,Q.underlying t2 with
  |some (.slice e),some .string=>match Q.underlying e,iz Q s t1 1 (s.eg g x) with
   |some (.int .u8),some ys=>match fM ys with |some l=>s.put o.dst (.d (.str l))|none=>none
   |_,_=>none
  |_,_=>none
 | .call c=>match c.callee with
  | .builtin .append=>match c.args.toList,c.argTypes.toList with
   | [x,y],[t,t2]=>eH Q s o.dst t t2 (s.eg g x) (s.eg g y)
   |_,_=>none
  | .builtin .copy=>match c.args.toList,c.argTypes.toList with
   | [x,y],[t,t2]=>mv Q s o.dst t t2 (s.eg g x) (s.eg g y)
   |_,_=>none
  | .builtin .clear=>match c.args.toList,c.argTypes.toList with
   | [x],[t]=>ji Q s o.dst t (s.eg g x)
   |_,_=>none
  | .builtin .delete=>match c.args.toList,c.argTypes.toList with
   | [x,y],t::_=>tk Q s o.dst t (s.eg g x) (s.eg g y)
   |_,_=>none
  |_=>none
 | .makeSlice t x y=>mr Q s o.dst t (s.eg g x) (s.eg g y)
 | .makeMap t none=>if GS Q t then gy Q s o.dst t else gx Q s o.dst t
 | .mapUpdate t m k x=>if GS Q t then fp Q s o.dst t (s.eg g m) (s.eg g k) (s.eg g x) else fq Q s o.dst t (s.eg g m) (s.eg g k) (s.eg g x)
 | .insert t m k x=>fq Q s o.dst t (s.eg g m) (s.eg g k) (s.eg g x)
 | .range t x=>lM Q s o.dst t (s.eg g x)
 | .mapEntry t m k=>fr Q s o.dst t (s.eg g m) (s.eg g k)
 | .entryStore _ m st x=>kc Q s o.dst (s.eg g m) (s.eg g st) (s.eg g x)
 | .buildSlice t len parts=>lL Q s o.dst t len (parts.toList.map λx=>(x.1,s.eg g x.2))
 |_=>none
def bT(Q:Program)(o:Oper):Option TypeId:=
 match o.op with
 | .assign (.const (.slice none 0 0))=>bI Q o.type
 |_=>none
def Lb(Q:Program)(t:TypeId)(x:D):D:=match lz Q t with |false=>x |true=>GR Q t x
def kZ(Q:Program)(t:TypeId)(k:Nat):List D->List (Nat×P)->Option (List D)
 |es,[]=>some es
 |es,(i,.d x)::r=>if Nat.beq (Lb Q t x).cells.length k&&Nat.blt i es.length then kZ Q t k (es.set i (Lb Q t x)) r else none
 |_,_=>none
def rY(Q:Program)(t:TypeId)(len:Nat)(parts:List (Nat×P)):Option P:=
 match bI Q t with
 |some e=>match Q.info? e,sz Q e,cQ Q e with
  |some i,some (k+1),some z=>if Nat.beq z.cells.length (k+1)&&Nat.ble (len*(k+1)) 16777216&&Nat.ble (len*i.bytes) 140737488355328 then
   (match kZ Q e (k+1) (List.replicate len z) parts with
   |some es=>some (.d (.sl (k+1) es))
   |none=>none) else none
  |_,_,_=>none
 |none=>none
def lN(o:Oper):Option (TypeId×Nat×List (Nat×Operand)):=
 match o.op with
 | .buildSlice t len parts=>if Nat.beq o.type 4000000 then some (t,len,parts.toList) else none
 |_=>none
def fA(Q:Program)(s:S)(o:Oper)(g:Option (Nat×Bool)):Option S:=
 match bT Q o with
 |some e=>match s.new (site o.dst) (.arr e false []) with
  |some (s1,v)=>s1.put o.dst (.sl (site o.dst) v 0)
  |none=>none
 |none=>match pv Q s o g with
  |some p=>s.put o.dst p
  |none=>ef Q s o g
def exec(Q:Program)(s:S)(o:Oper)(g:Option (Nat×Bool)):Option S:=
 match lN o with
 |some (t,len,parts)=>match rY Q t len (parts.map λx=>(x.1,s.eg g x.2)) with
  |some p=>s.put o.dst p
  |none=>none
 |none=>fA Q s o g
end Pi
