/- The text PiK. -/
import Derived.Test.YtfelfooeclnbiaaPiCode2
namespace Pi
open Go
def P.cU{β:Type}(p:P)(k:P->β):β:=
 match p with
 | .d x=>x.force λy=>k (.d y)
 | .cd x off=>x.force λy=>k (.cd y off)
 |p=>k p
def P.force{β:Type}(p:P)(k:P->β):β:=
 match p with
 | .agg ps=>eC P.cU ps λqs=>k (.agg qs)
 | .dX ps=>eC P.cU ps λqs=>k (.dX qs)
 | .fn f ps=>eC P.cU ps λqs=>k (.fn f qs)
 |p=>p.cU k
def tu{β:Type}(x:Nat×P)(k:Nat×P->β):β:=match x with | (n,p)=>p.force λq=>k (n,q)
def wg{β:Type}(x:D×P)(k:D×P->β):β:=match x with | (d,p)=>d.force λd=>p.cU λp=>k (d,p)
def tv{β:Type}(x:Nat×En)(k:Nat×En->β):β:=
 match x with
 | (n,⟨v,t,o⟩)=>match o with
  | .box ty ps=>eC P.cU ps λqs=>k (n,⟨v,t,.box ty qs⟩)
  | .arr ty fz es=>k (n,⟨v,t,.arr ty fz es⟩)
  | .map kt get c fz=>k (n,⟨v,t,.map kt get c fz⟩)
  | .iter kt vt left cur=>k (n,⟨v,t,.iter kt vt left cur⟩)
  | .gone=>k (n,⟨v,t,.gone⟩)
  | .jh=>k (n,⟨v,t,.jh⟩)
  | .ei kt get c p kd=>p.cU λp=>kd.force λkd=>k (n,⟨v,t,.ei kt get c p kd⟩)
  | .aN kt es=>eC wg es λes=>k (n,⟨v,t,.aN kt es⟩)
def S.force{β:Type}(s:S)(k:S->β):β:=
 match s with
 | ⟨n,tm,rg⟩=>eC tu tm λHg=>eC tv rg λHh=>k ⟨n,Hg,Hh⟩
theorem P.cN{β:Type}(p:P)(k:P->β):p.cU k=k p:=by
 cases p with
 |d x=>exact D.force_eq x (λy=>k (.d y))
 |cd x off=>exact D.force_eq x (λy=>k (.cd y off))
 |_=>rfl
theorem P.force_eq{β:Type}(p:P)(k:P->β):p.force k=k p:=by
 cases p with
 |agg ps=>exact cv P.cN ps (λqs=>k (.agg qs))
 |dX ps=>exact cv P.cN ps (λqs=>k (.dX qs))
 |fn f ps=>exact cv P.cN ps (λqs=>k (.fn f qs))
 |d x=>exact D.force_eq x (λy=>k (.d y))
 |cd x off=>exact D.force_eq x (λy=>k (.cd y off))
 |_=>rfl
theorem r9{β:Type}(x:Nat×P)(k:Nat×P->β):tu x k=k x:=by
 cases x with
 |mk n p=>exact P.force_eq p (λq=>k (n,q))
theorem uq{β:Type}(x:D×P)(k:D×P->β):wg x k=k x:=by
 cases x with
 |mk d p=>show d.force (λd=>p.cU λp=>k (d,p))=_;rw[D.force_eq,P.cN]
theorem sa{β:Type}(x:Nat×En)(k:Nat×En->β):tv x k=k x:=by
 obtain⟨n,v,t,o⟩:=x;cases o with
 |box ty ps=>exact cv P.cN ps (λqs=>k (n,⟨v,t,.box ty qs⟩))
 |ei kt get c p kd=>show p.cU (λp=>kd.force λkd=>k (n,⟨v,t,.ei kt get c p kd⟩))=_;rw[P.cN,D.force_eq]
 |aN kt es=>exact cv uq es (λes=>k (n,⟨v,t,.aN kt es⟩))
 |_=>rfl
theorem S.force_eq{β:Type}(s:S)(k:S->β):s.force k=k s:=by simp only[S.force];rw[cv r9,cv sa]
abbrev K(α:Type):=(α->Prop)->Prop
def K.ret{α:Type}(a:α):K α:=λae=>ae a
def K.fail{α:Type}:K α:=λ_=>False
def K.bind{α β:Type}(m:K α)(f:α->K β):K β:=λae=>m λa=>f a ae
def K.df{α:Type}(b:Bool)(a:α):K α:=λae=>cond b (ae a) False
def K.dec(b:Bool):K Bool:=λae=>cond b (ae true) (ae false)
def K.cg{α:Type}(o:Option α):K α:=λae=>match o with
 |some a=>ae a
 |none=>False
def D.hT:D->Int | .int _ n=>n |_=>0
def D.EZ:D->Bool | .bool b=>b |_=>false
def D.j7:D->List UInt8 | .str s=>s |_=>[]
def D.E0:D->List D | .sl _ es=>es |_=>[]
def D.nth(es:List D)(i:Nat):D:=es.getD i .dm
def D.nG(x:D)(j:Nat):D:=x.cells.getD j .dm
def j8(Q:Program):Nat->TypeId->List TypeId
 |0,_=>[]
 |n+1,t=>match Q.underlying t with
  |some (.struct fs)=>fs.toList.flatMap λf=>j8 Q n f.type
  |some (.array k e)=>(List.replicate k (j8 Q n e)).flatten
  |_=>[t]
def wh(Q:Program)(t:TypeId)(x:D):Option D:=
 match Q.underlying t with
 |some .bool=>some (.bool x.EZ)
 |some (.int k)=>some (.int k x.hT)
 |some .string=>some (.str x.j7)
 |some (.slice e)=>match sz Q e with |some (k+1)=>some (.sl (k+1) x.E0)|_=>none
 |_=>none
def Eb(Q:Program)(t:TypeId)(x:D):Bool:=
 match Q.underlying t,x with
 |some .bool,.bool _=>true
 |some (.int k),.int k' _=>k==k'
 |some .string,.str _=>true
 |some (.slice e),.sl k _=>sz Q e==some k
 |_,_=>false
def oh(Q:Program)(x:D):Nat->List TypeId->Option (List D)
 |_,[]=>some []
 |j,t::ts=>match wh Q t (x.nG j),oh Q x (j+1) ts with |some c,some cs=>some (c::cs)|_,_=>none
def yK(Q:Program)(x:D):Nat->List TypeId->Bool
 |_,[]=>true
 |j,t::ts=>Eb Q t (x.nG j)&&yK Q x (j+1) ts
def ur(Q:Program)(t:TypeId)(x:D):Bool:=
 if bF Q t then(match x with | .agg cs=>Nat.beq cs.length (j8 Q 20 t).length |_=>false)&&yK Q x 0 (j8 Q 20 t) else Eb Q t x
def sb(Q:Program)(t:TypeId)(x:D):K D:=
 match(if bF Q t then(match oh Q x 0 (j8 Q 20 t) with |some cs=>some (D.agg cs)|none=>none) else wh Q t x) with
 |some y=>K.df (ur Q t x) y
 |none=>K.fail
def arith(k:IntKind)(n:Int):K D:=
 match k with
 | .i64=>K.df (decide (-9223372036854775808<=n/\n<=9223372036854775807)) (.int .i64 n)
 |k=>K.ret (.int k (k.wrap n))
def mn(Q:Program)(op:BinOp)(t:TypeId)(p q:D):Option (K D):=
 match p,q with
 | .int k a,.int k' b=>match op with
  | .shl=>some (K.bind (K.df (decide (0<=b)) ()) λ_=>arith k (a*2^(min b.toNat k.bits)))
  | .shr=>some (K.df (decide (0<=b)) (.int k (a.fdiv (2^(min b.toNat k.bits)))))
  |_=>if k==k' then(match op with
   | .add=>some (arith k (a+b))
   | .sub=>some (arith k (a-b))
   | .mul=>some (arith k (a*b))
   | .quo=>some (K.bind (K.df (!(decide (b=0))) ()) λ_=>arith k (a.tdiv b))
   | .rem=>some (K.df (!(decide (b=0))) (.int k (a.tmod b)))
   | .and=>some (K.ret (.int k (k.wrap (BitVec.ofInt k.bits a&&&BitVec.ofInt k.bits b).toNat)))
   | .or=>some (K.ret (.int k (k.wrap (BitVec.ofInt k.bits a |||BitVec.ofInt k.bits b).toNat)))
   | .xor=>some (K.ret (.int k (k.wrap (BitVec.ofInt k.bits a^^^BitVec.ofInt k.bits b).toNat)))
   | .andNot=>some (K.ret (.int k (k.wrap (BitVec.ofInt k.bits a&&& ~~~BitVec.ofInt k.bits b).toNat)))
   | .eql=>some (K.ret (.bool (a==b)))
   | .neq=>some (K.ret (.bool (a !=b)))
   | .lss=>some (K.ret (.bool (a<b)))
   | .leq=>some (K.ret (.bool (a<=b)))
   | .gtr=>some (K.ret (.bool (a>b)))
   | .geq=>some (K.ret (.bool (a>=b)))
   |_=>none) else none
 | .str a,.str b=>match op with
  | .add=>some (K.df (decide (a.length+b.length<=9223372036854775807)) (.str (a++b)))
  | .eql=>some (K.ret (.bool (a==b)))
  | .neq=>some (K.ret (.bool (!(a==b))))
  | .lss=>some (K.ret (.bool (Op.bytesLess a b)))
  | .leq=>some (K.ret (.bool (Op.bytesLess a b ||a==b)))
  | .gtr=>some (K.ret (.bool (!(Op.bytesLess a b ||a==b))))
  | .geq=>some (K.ret (.bool (!(Op.bytesLess a b))))
  |_=>none
 | .bool a,.bool b=>match Q.underlying t,op with
  |some .bool,.eql=>some (K.ret (.bool (a==b)))
  |some .bool,.neq=>some (K.ret (.bool (!(a==b))))
  |_,_=>none
 | .agg a,.agg b=>match op with
  | .eql=>match D.bm a,D.bm b,Q.eqGuardType Q.depth t,vF Q 20 t (.agg a) (.agg b) with
   |some _,some _,false,some c=>some (K.ret (.bool c))
   |_,_,_,_=>none
  | .neq=>match D.bm a,D.bm b,Q.eqGuardType Q.depth t,vF Q 20 t (.agg a) (.agg b) with
   |some _,some _,false,some c=>some (K.ret (.bool (!c)))
   |_,_,_,_=>none
  |_=>none
 |_,_=>none
def fZ(len:Nat)(lo hi:Option P):K (Nat×Nat):=
 K.bind (match hi with
  |none=>K.ret len
  |some (.d (.int _ j))=>K.df (decide (0<=j/\j<=(len:Int))) j.toNat
  |_=>K.fail) λh=>match lo with
  |none=>K.ret (0,h)
  |some (.d (.int _ j))=>K.df (decide (0<=j/\j<=(h:Int))) (j.toNat,h)
  |_=>K.fail
def jz(Q:Program)(s:S)(t:TypeId)(p:P)(i:P):K P:=
 match tl Q t with
 |some (n,e)=>K.cg (gU Q s n e p i)
 |none=>match bc Q t,i with
 |some e,.d (.int _ j)=>match sz Q e with
  |some (k+1)=>match p with
   | .sl n v len=>match s.obj n v with
    |some (.arr ty _ _)=>if Nat.beq ty e then K.df (decide (0<=j/\j<(len:Int))) (.bE n v j.toNat (k+1) 0) else K.fail
    |_=>K.fail
   | .e9 n v k' off len=>match s.obj n v with
    |some (.arr ty _ _)=>if Nat.beq ty e&&Nat.beq k' (k+1) then K.df (decide (0<=j/\j<(len:Int))) (.bE n v (off+j.toNat) (k+1) 0) else K.fail
    |_=>K.fail
   | .d (.sl k' es)=>if Nat.beq k' (k+1) then K.bind (K.df (decide (0<=j/\j<(es.length:Int))) ()) λ_=>K.bind (sb Q e (D.nth es j.toNat)) λx=>K.ret (.cd x 0) else K.fail
   |_=>K.fail
  |_=>K.fail
 |_,_=>K.fail
def tA(Q:Program)(s:S)(t:TypeId)(p:P)(lo hi:Option P):K P:=
 match bc Q t with
 |none=>K.fail
 |some e=>match sz Q e with
  |some (k+1)=>match p with
   | .d (.sl k' es)=>if Nat.beq k' (k+1) then K.bind (fZ es.length lo hi) λx=>K.ret (.d (.sl k' ((es.take x.2).drop x.1))) else K.fail
   | .sl n v len=>match s.obj n v,lo with
    |some (.arr _ _ _),none=>K.bind (fZ len none hi) λx=>K.ret (.sl n v x.2)
    |some (.arr ty _ _),some lo=>match sz Q ty with
     |some k'=>if Nat.beq k' (k+1) then K.bind (fZ len (some lo) hi) λx=>K.ret (.e9 n v (k+1) x.1 (x.2-x.1)) else K.fail
     |none=>K.fail
    |_,_=>K.fail
   | .e9 n v k' off len=>match s.obj n v with
    |some (.arr _ _ _)=>if Nat.beq k' (k+1) then K.bind (fZ len lo hi) λx=>K.ret (.e9 n v (k+1) (off+x.1) (x.2-x.1)) else K.fail
    |_=>K.fail
   |_=>K.fail
  |_=>K.fail
def sc(Q:Program)(s:S)(t:TypeId)(p:P)(lo hi:Option P):K P:=tA Q s t (gw Q s t p lo) lo hi
def wi(Q:Program)(s:S)(t:TypeId)(p:P):K P:=
 match p with
 | .bE n v i k off=>match s.obj n v with
  |some (.arr ty _ es)=>match sz Q ty with
   |some k'=>if Nat.beq k k' then K.bind (K.df (decide (i<es.length)) ()) λ_=>K.bind (sb Q ty (D.nth es i)) λx=>(match di Q t x.cells off with |some y=>K.ret (.d y)|none=>K.fail) else K.fail
   |none=>K.fail
  |_=>K.fail
 |_=>K.cg (ji Q s t p)
def wj:IntKind->Bool
 | .i8 | .i16 | .i32 | .i64 | .u8 | .u16 | .u32=>true
 |_=>false
def wk(Q:Program)(a b:TypeId)(x:D):Option (K D):=
 match Q.underlying a,Q.underlying b,x with
 |some (.int ka),some (.int k),.int _ n=>some (if wj ka then arith k n else K.ret (.int k (k.wrap n)))
 |some .string,some .string,.str s=>some (K.ret (.str s))
 |_,_,_=>none
def D.merge(c:Bool)(x y:D):Option D:=
 match x,y with
 | .bool a,.bool b=>some (.bool (bif c then a else b))
 | .int k a,.int k' b=>if k==k' then some (.int k (bif c then a else b)) else none
 | .str a,.str b=>some (.str (bif c then a else b))
 |_,_=>none
def P.merge(c:Bool)(p q:P):Option P:=
 match p,q with
 | .d x,.d y=>match D.merge c x y with |some z=>some (.d z)|none=>none
 |_,_=>none
def AR(k:D):List (D×P)->K (Option P)
 | []=>K.ret none
 | (j,p)::r=>K.bind (K.dec (D.dh j k)) λb=>if b then K.ret (some p) else AR k r
def yL(k:D)(p:P):List (D×P)->K (List (D×P))
 | []=>K.ret [(k,p)]
 | (j,q)::r=>K.bind (K.dec (D.dh j k)) λb=>if b then K.ret ((k,p)::r) else K.bind (yL k p r) λr'=>K.ret ((j,q)::r')
def yM(k:D):List (D×P)->K (List (D×P))
 | []=>K.ret []
 | (j,q)::r=>K.bind (K.dec (D.dh j k)) λb=>if b then K.ret r else K.bind (yM k r) λr'=>K.ret ((j,q)::r')
def ph(Q:Program)(s:S)(dst:Option Nat)(t:TypeId)(p k x:P):K S:=
 match cy Q t,p,k with
 |some (kt,_),.mp n v,.d kd=>match s.obj n v with
  |some (.aN gP es)=>if Nat.beq kt gP&&x.aF then K.bind (K.df (bG Q kt kd) ()) λ_=>K.bind (yL kd x es) λes'=>K.cg ((s.setObj n (.aN kt es')).put dst .bad) else K.fail
  |_=>K.fail
 |_,_,_=>K.fail
def wm(Q:Program)(s:S)(dst:Option Nat)(t:TypeId)(p k:P):K S:=
 match cy Q t,p,k with
 |some (kt,_),.mp n v,.d kd=>match s.obj n v with
  |some (.aN gP es)=>if Nat.beq kt gP then K.bind (K.df (bG Q kt kd) ()) λ_=>K.bind (yM kd es) λes'=>K.cg ((s.setObj n (.aN kt es')).put dst .bad) else K.fail
  |_=>K.fail
 |_,_,_=>K.fail
def pj(Q:Program)(s:S)(t:TypeId)(p i:P)(ok:Bool):K P:=
 match cy Q t with
 |some (kt,e)=>match bS Q e,i with
  |some z,.d k=>match p with
   | .mp n v=>match s.obj n v with
    |some (.map gP get _ _)=>if Nat.beq kt gP then K.bind (K.df (bG Q kt k) ()) λ_=>K.bind (sb Q e (fk (get k) z)) λy=>K.ret (if ok then .dX [.d y,.d (.bool (get k).isSome)] else .d y) else K.fail
    |some (.ei gP get _ _ _)=>if !ok&&Nat.beq kt gP then K.bind (K.df (bG Q kt k) ()) λ_=>K.bind (sb Q e (fk (get k) z)) λy=>K.ret (.d y) else K.fail
    |some (.aN gP es)=>if Nat.beq kt gP then K.bind (K.df (bG Q kt k) ()) λ_=>K.bind (AR k es) λr=>K.ret (if ok then .dX [r.getD (.d z),.d (.bool r.isSome)] else r.getD (.d z)) else K.fail
    |_=>K.fail
   | .d .jS=>K.bind (K.df (bG Q kt k) ()) λ_=>K.ret (if ok then .dX [.d z,.d (.bool false)] else .d z)
   |_=>K.fail
  |_,_=>K.fail
 |none=>K.fail
def E1(Q:Program)(s:S)(o:Oper)(g:Option (Nat×Bool)):K P:=
 match o.op with
 | .pick c a b=>match s.eg g c with
  | .d (.bool r)=>(match P.merge r (s.eg g a) (s.eg g b) with
   |some p=>K.ret p
   |none=>K.bind (K.dec r) λr=>K.ret (if r then s.eg g a else s.eg g b))
  |_=>K.fail
 | .binOp op t x y _=>match s.eg g x,s.eg g y with
  | .d p,.d q=>(match mn Q op t p q with
   |some m=>K.bind m λz=>K.ret (.d z)
   |none=>K.cg (gF Q s op t x y (s.eg g x) (s.eg g y)))
  |p,q=>K.cg (gF Q s op t x y p q)
 | .unOp op _ x=>match op,s.eg g x with
  | .not,.d (.bool b)=>K.ret (.d (.bool (!b)))
  | .neg,.d (.int k n)=>K.bind (arith k (0-n)) λz=>K.ret (.d z)
  |_,_=>K.cg (pv Q s o g)
 | .convert a b x=>match s.eg g x with
  | .d y=>(match wk Q a b y with
   |some m=>K.bind m λz=>K.ret (.d z)
   |none=>K.cg (pv Q s o g))
  |_=>K.cg (pv Q s o g)
 | .load t x=>wi Q s t (s.eg g x)
 | .indexAddr t x i=>jz Q s t (s.eg g x) (s.eg g i)
 | .index t x i=>match Q.underlying t,s.eg g x,s.eg g i with
  |some .string,.d (.str l),.d (.int _ j)=>K.df (decide (0<=j/\j<(l.length:Int))) (.d (.int .u8 ((l.getD j.toNat 0).toNat)))
  |_,_,_=>K.cg (pv Q s o g)
 | .lookup t x i ok=>pj Q s t (s.eg g x) (s.eg g i) ok
 | .slice t x lo hi none=>match s.eg g x with
  | .d (.str l)=>(match Q.underlying t with
   |some .string=>K.bind (fZ l.length (lo.map (s.eg g)) (hi.map (s.eg g))) λx=>K.ret (.d (.str ((l.take x.2).drop x.1)))
   |_=>K.fail)
  | .d .dm=>K.cg (pv Q s o g)
  |p=>sc Q s t p (lo.map (s.eg g)) (hi.map (s.eg g))
 | .call c=>match c.callee with
  | .builtin .len=>match c.args.toList,(c.argTypes[0]?).bind Q.underlying with
   | [x],some .string=>(match s.eg g x with
    | .d (.str l)=>K.ret (.d (.int .i64 l.length))
    |_=>K.fail)
   |_,_=>K.cg (pv Q s o g)
  | .builtin .min=>match c.args.toList.map (s.eg g) with
   | [.d (.int k a),.d (.int _ b)]=>K.ret (.d (.int k (min a b)))
   |_=>K.cg (pv Q s o g)
  | .builtin .max=>match c.args.toList.map (s.eg g) with
   | [.d (.int k a),.d (.int _ b)]=>K.ret (.d (.int k (max a b)))
   |_=>K.cg (pv Q s o g)
  |_=>K.cg (pv Q s o g)
 |_=>K.cg (pv Q s o g)
def sd(Q:Program)(s:S)(t:TypeId)(addr val:P):K S:=
 match addr with
 | .bE n v i k' off=>match sz Q t with
  |none=>K.fail
  |some k=>match fW Q s t val with
   |some (s1,x)=>match s1.obj n v with
    |some (.arr ty false es)=>match sz Q ty with
     |some k2=>if Nat.beq k' k2&&Nat.beq x.cells.length k&&Nat.ble (off+k) k2 then K.bind (K.df (decide (i<es.length)) ()) λ_=>K.bind (sb Q ty (D.nth es i)) λy=>K.ret (s1.setObj n (.arr ty false (es.set i (y.a8 (y.cells.take off++x.cells++y.cells.drop (off+k)))))) else K.fail
     |none=>K.fail
    |_=>K.fail
   |none=>K.fail
 |_=>K.cg (cL Q s t addr val)
def pk(Q:Program)(s:S)(dst:Option Nat)(t t2:TypeId)(p q:P):K S:=
 match bc Q t with
 |none=>K.fail
 |some e=>
       match Q.info? e,sz Q e with
  |some i,some (k+1)=>match fm Q s t2 (k+1) q,bS Q e with
   |some ys,some z=>if Nat.beq z.cells.length (k+1) then(match p with
    | .sl n v len=>match lk s.rg n with
     |some en=>match en.obj with
      | .arr ty false es=>if Nat.beq en.aw v&&Nat.beq ty e then
        K.bind (K.df (Nat.ble len es.length&&eD (len+ys.length) i.bytes) ()) λ_=>
        K.cg (({s with rg:=ins n ⟨v+1,none,.arr ty false (es.take len++ys)⟩ s.rg}:S).put dst (.sl n (v+1) (len+ys.length)))
       else K.fail
      |_=>K.fail
     |none=>K.fail
    | .d .dm=>K.bind (K.df (eD ys.length i.bytes) ()) λ_=>(match s.new (site dst) (.arr e false ys) with
      |some (s1,v)=>K.cg (s1.put dst (.sl (site dst) v ys.length))
      |none=>K.fail)
    |_=>K.fail) else K.fail
   |_,_=>K.fail
  |_,_=>K.fail
def P.wo:P->Bool
 | .sl .. | .e9 ..=>true
 | .d (.sl ..)=>true
 |_=>false
def bytesOf:List D->List UInt8
 | []=>[]
 |x::r=>UInt8.ofNat x.hT.toNat::bytesOf r
def cX:List D->Bool
 | []=>true
 | .int .u8 _::r=>cX r
 |_=>false
def wq(Q:Program)(s:S)(dst:Option Nat)(t:TypeId)(p q:P):K S:=
 match bc Q t,p,q with
 |some e,.d (.int _ l),.d (.int _ c)=>match Q.info? e,sz Q e,bS Q e with
  |some i,some (k+1),some z=>if Nat.beq z.cells.length (k+1) then K.bind (K.df (decide (0<=l/\l<=c/\c<=9223372036854775807/\(i.bytes:Int)*c<=281474976710656)) ()) λ_=>
   (match s.new (site dst) (.arr e false (List.replicate l.toNat z)) with
   |some (s1,v)=>K.cg (s1.put dst (.sl (site dst) v l.toNat))
   |none=>K.fail) else K.fail
  |_,_,_=>K.fail
 |_,_,_=>K.fail
def wu(Q:Program)(s:S)(dst:Option Nat)(t t2:TypeId)(p q:P):K S:=
 match bc Q t,p with
 |some e,.sl n v len=>match sz Q e with
  |some (k+1)=>match fm Q s t2 (k+1) q,s.obj n v with
   |some ys,some (.arr ty false es)=>if Nat.beq ty e then K.bind (K.df (decide (len<=es.length/\ys.length<=len)) ()) λ_=>K.cg ((s.setObj n (.arr ty false (ys++es.drop ys.length))).put dst (.d (.int .i64 ys.length))) else K.fail
   |_,_=>K.fail
  |_=>K.fail
 |_,_=>K.fail
def se(Q:Program)(s:S)(dst:Option Nat)(t:TypeId)(p:P):K S:=
 match bc Q t,p with
 |some e,.e9 n v k off len=>match sz Q e,bS Q e,s.obj n v with
  |some (k2+1),some z,some (.arr ty false es)=>if Nat.beq ty e&&Nat.beq k (k2+1)&&Nat.beq z.cells.length (k2+1) then K.bind (K.df (decide (off+len<=es.length)) ()) λ_=>K.cg ((s.setObj n (.arr ty false (es.take off++List.replicate len z++es.drop (off+len)))).put dst .bad) else K.fail
  |_,_,_=>K.fail
 |_,_=>K.fail
def Gz(Q:Program)(s:S)(o:Oper)(g:Option (Nat×Bool)):K S:=
 match o.op with
 | .store t addr x=>K.bind (sd Q s t (s.eg g addr) (s.eg g x)) λs1=>K.cg (s1.put o.dst .bad)
 | .convert t1 t2 x=>match Q.underlying t1,Q.underlying t2 with
  |some (.slice e),some .string=>match Q.underlying e,fm Q s t1 1 (s.eg g x) with
   |some (.int .u8),some ys=>if(s.eg g x).wo then K.bind (K.df (cX ys) ()) λ_=>K.cg (s.put o.dst (.d (.str (bytesOf ys)))) else K.fail
   |_,_=>K.fail
  |_,_=>K.fail
 | .call c=>match c.callee with
  | .builtin .append=>match c.args.toList,c.argTypes.toList with
   | [x,y],[t,t2]=>pk Q s o.dst t t2 (s.eg g x) (s.eg g y)
   |_,_=>K.fail
  | .builtin .copy=>match c.args.toList,c.argTypes.toList with
   | [x,y],[t,t2]=>wu Q s o.dst t t2 (s.eg g x) (s.eg g y)
   |_,_=>K.fail
  | .builtin .clear=>match c.args.toList,c.argTypes.toList with
   | [x],[t]=>se Q s o.dst t (s.eg g x)
   |_,_=>K.fail
  | .builtin .delete=>match c.args.toList,c.argTypes.toList with
   | [x,y],t::_=>wm Q s o.dst t (s.eg g x) (s.eg g y)
   |_,_=>K.fail
  |_=>K.fail
 | .makeSlice t x y=>wq Q s o.dst t (s.eg g x) (s.eg g y)
 | .mapUpdate t m k x=>if AQ Q t then ph Q s o.dst t (s.eg g m) (s.eg g k) (s.eg g x) else K.cg (ef Q s o g)
 |_=>K.cg (ef Q s o g)
def CN(Q:Program)(o:Oper):Bool:=
 match o.op with
 | .alloc _ | .box .. | .store ..=>true
 | .convert t1 t2 _=>match Q.underlying t1,Q.underlying t2 with
  |some (.slice _),some .string=>true
  |_,_=>false
 | .call c=>match c.callee with
  | .builtin .append | .builtin .copy | .builtin .clear | .builtin .delete=>true
  |_=>false
 | .makeSlice .. | .buildSlice .. | .makeMap .. | .mapUpdate .. | .insert .. | .range .. | .mapEntry .. | .entryStore ..=>true
 |_=>false
def sf(Q:Program)(s:S)(o:Oper)(g:Option (Nat×Bool)):K S:=
 match bj Q o with
 |some _=>K.cg (dI Q s o g)
 |none=>if CN Q o then Gz Q s o g else K.bind (E1 Q s o g) λp=>K.cg (s.put o.dst p)
def wv(Q:Program)(s:S)(o:Oper)(g:Option (Nat×Bool)):K S:=
 match jy o with
 |some (t,len,parts)=>K.cg (match oc Q t len (parts.map λx=>(x.1,s.eg g x.2)) with |some p=>s.put o.dst p |none=>none)
 |none=>sf Q s o g
abbrev eY:=List P->List (Nat×En)->K (P×List (Nat×En))
abbrev KF:=FuncId->eY
def wx(Q:Program)(cf:KF)(s:S)(dst:Option Nat)(f:P)(args:List P):K S:=
 match f with
 | .fn gZ cl=>match bn Q s gZ (args++cl) with
  |none=>K.fail
  |some (s1,ps)=>
   let ns:=reach s1.rg 1000 ps []
   if dp ns then(match sub s1.rg (toPos s1.rg ns) true 0 ns with
    |none=>K.fail
    |some R0=>K.bind (cf gZ (iW (toPos s1.rg ns) ps) R0) λx=>
     let ms:=cV x.2 (reach x.2 1000 (x.1::fC x.2 x.2) [])
     let σ:=eH x.2 s1.rg ns ms (site dst*1000)
     if dp ms&&Nat.ble ms.length 1000 then(match dC x.2 σ 0 ns s1.rg with
      |none=>K.fail
      |some R2=>match fY x.2 σ (site dst*1000) ms R2 with
       |none=>K.fail
       |some R3=>K.cg (({s1 with rg:=R3}:S).put dst (od σ x.1))) else K.fail) else K.fail
 |_=>K.fail
def wy(Q:Program)(cf:KF)(s:S)(o:Oper)(g:Option (Nat×Bool)):K S:=
 match eI o with
 |some (f,xs)=>wx Q cf s o.dst (s.eg g f) (xs.map (s.eg g))
 |none=>wv Q s o g
def rep(t:Nat)(v:P):List (Nat×P)->List (Nat×P)
 | []=>[]
 | (k,u)::r=>if Nat.beq k t then(k,v)::r else(k,u)::rep t v r
def pn(dst:Option Nat)(kn:List (Nat×Bool)):List (Nat×Bool):=
 match dst with
 |none=>kn
 |some d=>kn.filter λx=> !Nat.beq x.1 d
def CO(o:Oper):Bool:=match o.op with | .binOp .rem _ _ _ _=>true |_=>false
def AT(ops:List Oper)(o:Oper):Bool:=
 match o.op with
 | .call c=>match c.callee,c.argTypes.toList with
  | .builtin .len,[t]=>(Nat.beq t 9 ||ops.any CO)&&ops.any λp=>match p.op with
   | .binOp .add _ (.tmp u) (.const _) _=>(match o.dst with |some d=>Nat.beq u d |none=>false)
   |_=>false
  |_,_=>false
 |_=>false
def wz(ops:List Oper)(o:Oper)(s:S):K S:=
 if AT ops o then(match o.dst with
  |some d=>match lk s.tm d with
   |some (.d (.int k z))=>λae=> ∀c:Int,c=z->ae ⟨s.n,rep d (.d (.int k c)) s.tm,s.rg⟩
   |_=>K.ret s
  |none=>K.ret s) else K.ret s
def tB(Q:Program)(cf:KF)(ops:List Oper)(kn:List (Nat×Bool))(s:S)(o:Oper):K (S×List (Nat×Bool)):=
 match ay ops o with
 |none=>K.fail
 |some none=>K.bind (wy Q cf s o none) λs1=>K.bind (wz ops o s1) λs1=>K.ret (s1,pn o.dst kn)
 |some (some (t,want))=>match lk kn t with
  |some r=>if r==want then K.bind (wy Q cf s o (some (t,want))) λs1=>K.bind (wz ops o s1) λs1=>K.ret (s1,pn o.dst kn) else K.bind (K.cg (s.put o.dst .skip)) λs1=>K.ret (s1,pn o.dst kn)
  |none=>match lk s.tm t with
   |some (.d (.bool b))=>K.bind (K.dec b) λr=>
    if r==want then K.bind (wy Q cf ⟨s.n,rep t (.d (.bool r)) s.tm,s.rg⟩ o (some (t,want))) λs1=>K.bind (wz ops o s1) λs1=>K.ret (s1,pn o.dst ((t,r)::kn))
    else K.bind (K.cg ((⟨s.n,rep t (.d (.bool r)) s.tm,s.rg⟩:S).put o.dst .skip)) λs1=>K.ret (s1,pn o.dst ((t,r)::kn))
   |some (.when ..)=>K.bind (K.cg (s.put o.dst .skip)) λs1=>K.ret (s1,pn o.dst kn)
   |_=>K.fail
def ga(Q:Program)(cf:KF)(ops:List Oper):List Oper->List (Nat×Bool)->S->K S
 | [],_,s=>K.ret s
 |o::r,kn,s=>K.bind (tB Q cf ops kn s o) λx=>x.1.force λs1=>ga Q cf ops r x.2 s1
def gb(Q:Program)(cf:KF)(ops:List Oper):List Oper->List (Nat×Bool)->S->K (S×List Step)
 | [],_,s=>K.ret (s,[])
 |o::r,kn,s=>K.bind (tB Q cf ops kn s o) λx=>x.1.force λs1=>K.bind (gb Q cf ops r x.2 s1) λy=>K.ret (y.1,fD Q ops s o s1::y.2)
def wA(Q:Program)(cf:KF)(ops:List Oper)(cls:Nat)(s:S):K S:=
 match cls with
 |0=>K.fail
 |1=>K.bind (gb Q cf ops ops [] s) λx=>λae=>hD 0 (masks ops []) x.2 (ae x.1)
 |4=>K.bind (gb Q cf (bf ops) (bf ops) [] s) λx=>λae=>hD 0 (masks (bf ops) []) x.2 (ae x.1)
 |2=>ga Q cf ops ops [] s
 |5=>ga Q cf (bf ops) (bf ops) [] s
 |6=>(match pd ops with
  |some (m,t,d)=>(match jj Q t,lk s.tm d with
   |false,none=>K.bind (gb Q cf ops ops [] s) λx=>λae=>hD m (masks ops []) x.2 (ae x.1)
   |_,_=>K.fail)
  |none=>K.fail)
 |_=>K.fail
def dY(dc:Nat->Nat):Code->Bool
 | .region id ops draw=> !draw ||Nat.beq (eL ops.toList) (dc id)
 | .seq a b=>dY dc a&&dY dc b
 | .cond _ a b=>dY dc a&&dY dc b
 | .block _ c | .loop c | .scope c=>dY dc c
 |_=>true
def hY(dc:FuncId->Nat->Nat):Nat->List Func->Bool
 |_,[]=>true
 |i,f::r=>(match f.body with |some c=>dY (dc i) c |none=>true)&&hY dc (i+1) r
def po(body:S->K (PX×S))(keep:Option (List Nat×List Nat)):Nat->S->K (PX×S)
 |0,_=>K.fail
 |k+1,s=>K.bind (K.cg (fq keep s)) λs0=>K.bind (body s0) λx=>match x.1 with
  | .normal=>po body keep k x.2
  |_=>K.bind (K.cg (hJ keep x.2)) λs2=>K.ret (x.1,s2)
def mq(body:S->K (PX×S))(keep:Option (List Nat×List Nat))(s:S):K (PX×S):=
 K.bind (body s) λx=>match x.1 with
  | .normal=>K.bind (K.cg (fq keep x.2)) λs2=>K.ret (.normal,s2)
  |_=>K.bind (K.cg (hJ keep x.2)) λs2=>K.ret (x.1,s2)
def ca(Q:Program)(kf:KF)(kp:Nat->Option (List Nat×List Nat))(hk:List (Nat×(S->K (PX×S))))(dc:Nat->Nat)(lf:Nat):Code->S->K (PX×S)
 | .skip,s=>K.ret (.normal,s)
 | .label _,s=>K.ret (.normal,s)
 | .region id ops draw,s=>K.bind (if draw then wA Q kf ops.toList (dc id) s else ga Q kf ops.toList ops.toList [] s) λs1=>K.ret (.normal,s1)
 | .seq a b,s=>K.bind (ca Q kf kp hk dc lf a s) λx=>match x.1 with
  | .normal=>ca Q kf kp hk dc lf b x.2
  |_=>K.ret x
 | .cond c x y,s=>match s.ev c with
  | .d (.bool b)=>K.bind (K.dec b) λr=>if r then ca Q kf kp hk dc lf x s else ca Q kf kp hk dc lf y s
  |_=>K.fail
 | .block id c,s=>K.bind (ca Q kf kp hk dc lf c s) λx=>match x.1 with
  | .exit tr=>if Nat.beq tr id then K.ret (.normal,x.2) else K.ret x
  |_=>K.ret x
 | .loop c,s=>match lk hk (Code.qC c) with
  |some h=>h s
  |none=>po (ca Q kf kp hk dc lf c) (kp (Code.qC c)) lf s
 | .scope c,s=>ca Q kf kp hk dc lf c s
 | .exit id,s=>K.ret (.exit id,s)
 | .ret,s=>K.ret (.ret,s)
 |_,_=>K.fail
def tC(Q:Program)(m:Nat)(Cb:List TypeId)(qs:List P)(s:S):K (P×List (Nat×En)):=K.cg (finish Q m Cb qs s)
def fE(Q:Program)(kf:KF)(kp:rS)(hk:List (Nat×(S->K (PX×S))))(dc:FuncId->Nat->Nat)(lf:Nat):KF:=λf ps R=>
 match Q.funcs[f]? with
 |none=>K.fail
 |some fn=>if dQ f kp.xs then K.fail else match fn.body with
  |none=>K.fail
  |some c=>if fn.name== "runtime.NumGoroutine" then K.fail else
   K.bind (ca Q kf (kp f) hk (dc f) lf c ⟨fn.ntmps,eo 0 (hS (kp f 999999) Q fn.params.toList ps),R⟩) λx=>match x.1 with
    | .exit _=>K.fail
    |_=>match cD Q x.2 fn.results.toList with
     |some qs=>tC Q R.length fn.resultTypes.toList qs x.2
     |none=>K.fail
def runK(Q:Program)(kp:rS)(dc:FuncId->Nat->Nat)(H:List (FuncId×eY))(lf:Nat):Nat->KF
 |0=>λf ps R=>match lk H f with |some h=>h ps R |none=>K.fail
 |k+1=>λf ps R=>match lk H f with
  |some h=>h ps R
  |none=>fE Q (runK Q kp dc H lf k) kp [] dc lf f ps R
end Pi
